/- strings.Clone: the same bytes; from the library's contract. -/
import Derived.Test.YtfdndagnolbnhaaGreatYAbMore
import Derived.Shelf.Strings.Repeat
import Derived.Maps.Own
import Derived.Below
import Derived.Shelf.SlicesE.Clone
import Derived.Shelf.Pu.Clone
section
set_option linter.unusedSimpArgs false
namespace Go.Ab
variable {U : Nat → Type} {α β γ : Type}
def taken (hp : List (Blk U)) : Blk U → Blk U
  | .cells cs tg => .cells (cs.map (frzC 0 hp)) tg
  | .row t v _ => .row t (v + 1) []
  | .mrow t v _ => .row t (v + 1) []
  | .dead => .dead
def frzSpec (spec : List (V U) → List (Blk U) → Option (FnOut U)) (args : List (V U)) (hp : List (Blk U)) : Option (FnOut U) :=
  match spec (args.map fun y => renV (fun _ _ => none) (canV (frzV 0 hp y))) [] with
  | some r => some ⟨r.β, r.o, fun x => (r.out x).map fun p => (p.1.map (renV fun _ _ => none), hp.map (taken hp))⟩
  | none => none
section
variable {P : Program} {cd : Cd U} {M M' : Mp} {Fz Fz' : Nat → Prop} {w w' : World}
def takM (hp : List (Blk U)) (M : Mp) : Mp := fun b => match hp[b]? with
  | some (.row t v _) => some (.row none t (v + 1) 0 0)
  | some (.mrow t v _) => some (.row none t (v + 1) 0 0)
  | _ => M b
theorem z1nv (hp : List (Blk U)) (M : Mp) : Ext (frzM 0 hp M) (takM hp M) := by
  intro b i h
  simp only [frzM, Nat.not_lt_zero, if_false] at h
  simp only [takM]
  split at h
  · cases h
  · cases h
  · rename_i hne hne2
    refine ⟨i, ?_, .refl i⟩
    split
    · rename_i t v l e; exact absurd e (hne t v l)
    · rename_i t v l e; exact absurd e (hne2 t v l)
    · exact h
theorem z20v {hp : List (Blk U)} (h : HR P cd M Fz hp w) : Ext M (takM hp M) := by
  intro b i hb
  simp only [takM]
  split
  · rename_i t v l e
    have := h.blk b _ e
    obtain ⟨pos, cap, e1, _⟩ := this
    rw [hb] at e1
    injection e1 with e1
    subst e1
    exact ⟨_, rfl, .later _ _ _ _ _ _ _ _ _ _ (Nat.lt_succ_self v)⟩
  · rename_i t v l e
    have := h.blk b _ e
    obtain ⟨pos, cap, e1, _⟩ := this
    rw [hb] at e1
    injection e1 with e1
    subst e1
    exact ⟨_, rfl, .later _ _ _ _ _ _ _ _ _ _ (Nat.lt_succ_self v)⟩
  · exact ⟨i, hb, .refl i⟩
theorem zzj {hp : List (Blk U)} {b : Nat} {i : Inf} {k : Nat} (h : takM hp M b = some i) (hk : i.blk = some k) : frzM 0 hp M b = some i := by
  simp only [takM] at h
  simp only [frzM, Nat.not_lt_zero, if_false]
  split at h
  · injection h with h; subst h; cases hk
  · injection h with h; subst h; cases hk
  · rename_i hne hne2
    split
    · rename_i t v l e; exact absurd e (hne t v l)
    · rename_i t v l e; exact absurd e (hne2 t v l)
    · exact h
theorem HR.taken (ok : CdOk P cd) {hp : List (Blk U)} (h : HR P cd M Fz hp w) : HR P cd (takM hp M) (fun k => Fz k ∨ RowAt 0 hp M k) (hp.map (taken hp)) w := by
  have hf := h.frzn ok 0
  have he : Ext (frzM 0 hp M) (takM hp M) := z1nv hp M
  refine ⟨fun b x hx => ?_, fun b hb => ?_, fun b b' i i' k h1 h2 h3 h4 => hf.inj b b' i i' k (zzj h1 h3) (zzj h2 h4) h3 h4, fun b i k h1 h2 => hf.apart b i k (zzj h1 h2) h2, hf.fz, fun b i k h1 h2 => hf.lt b i k (zzj h1 h2) h2⟩
  · rw [List.getElem?_map] at hx
    obtain ⟨y, hy, rfl⟩ := Option.map_eq_some_iff.1 hx
    have hb := h.blk b y hy
    cases y with
    | dead =>
      show takM hp M b = none
      simp only [takM, hy]
      exact hb
    | cells cs tg =>
      have hb2 := hf.blk b (.cells (cs.map (frzC 0 hp)) tg) (by rw [z187, hy]; rfl)
      obtain ⟨k, arr, e, e1, e2, e3⟩ := hb2
      refine ⟨k, arr, e, ?_, e2, e3.mono he (Frz.refl _ _)⟩
      simp only [frzM, Nat.not_lt_zero, if_false, hy] at e1
      simp only [takM, hy]
      exact e1
    | row t v l =>
      refine ⟨none, 0, ?_, rfl⟩
      simp only [takM, hy]
      rfl
    | mrow t v l =>
      refine ⟨none, 0, ?_, rfl⟩
      simp only [takM, hy]
      rfl
  · rw [List.length_map] at hb
    simp only [takM]
    rw [List.getElem?_eq_none hb]
    exact h.out b hb
theorem z20x (ok : CdOk P cd) {f : Nat} {spec : List (V U) → List (Blk U) → Option (FnOut U)} (hout : ∀ a h r, spec a h = some r → ∀ x p, (r.out x).run = some p → p.2 = []) (h : FnOk P cd f spec) : FnOk P cd f (frzSpec spec) := by
  intro M Fz w hp args vargs hhr hargs r hs x hx out hout2
  unfold frzSpec at hs
  split at hs
  · rename_i r0 hr0
    injection hs with hs
    subst hs
    have hx : r0.o = some x := hx
    rw [Tree.run_map] at hout2
    obtain ⟨p0, hp0, rfl⟩ := Option.map_eq_some_iff.1 hout2
    have h2 := hhr.taken ok
    have ha : RVs P cd (takM hp M) (fun k => Fz k ∨ RowAt 0 hp M k) w (args.map (frzV 0 hp)) vargs := by
      refine ⟨by simp [hargs.1], fun j y v hy hv => ?_⟩
      rw [List.getElem?_map] at hy
      obtain ⟨z, hz, rfl⟩ := Option.map_eq_some_iff.1 hy
      exact ((hargs.2 j z v hz hv).frz ok hhr 0).mono (z1nv hp M) (Frz.refl _ _)
    have hr : Renum (takM hp M) (small 0 (takM hp M) []) (fun _ _ => none) := Renum.none _ _
    have hargs2 := z1eb (ha.can ok) ok hr
    rw [List.map_map] at hargs2
    obtain ⟨fn, h1, h3, h4, hc⟩ := h (small 0 (takM hp M) []) _ w [] _ vargs (z11a ok h2 0 (order := []) List.nodup_nil) hargs2 r0 hr0 x hx p0 hp0
    refine ⟨fn, h1, h3, h4, hc.mono fun e w' ⟨v, he, hp1⟩ => ⟨v, he, ?_⟩⟩
    rw [hout _ _ _ hr0 x p0 hp0] at hp1
    obtain ⟨M', Fz', p1, p2, p3, p4, p5, p6, p7⟩ := z17z ok (order := []) (R := hp.map (Go.Ab.taken hp)) h2 List.nodup_nil (fun x hx => by simp at hx) hp1 (by simp [putBack, putBack.go]) (.inr rfl)
    have hheld : ∀ k, Held (takM hp M) k → Held M k := by
      rintro k ⟨b, i, e1, e2⟩
      exact ⟨b, i, zpq 0 hp M (zzj e1 e2), e2⟩
    refine ⟨M', Fz', p1, p2, (z20v hhr).trans p3, fun k hk => p4 k (.inl hk), ⟨p5.os, p5.tape, p5.output, p5.size, fun k hk hn => p5.old k hk fun hk' => hn (hheld k hk')⟩, fun k hk => (p6 k hk).imp (hheld k) id, fun k hk => ?_⟩
    rcases p7 k hk with (h' | ⟨b, t, v, l, _, _, i, e1, e2⟩) | h' | h'
    · exact .inl h'
    · exact .inr (.inl ⟨b, i, e1, e2⟩)
    · exact .inr (.inl (hheld k h'))
    · exact .inr (.inr h')
  · cases hs
theorem z1y5 {A : Arg U α} {B : Bls U γ} {F : α → γ → Option β} {out : β → List (V U) × List (Blk U)} (h : ∀ x, (out x).2 = []) : ∀ a hp r, zf A B F out a hp = some r → ∀ x p, (r.out x).run = some p → p.2 = [] := by
  intro a hp r hs x p hp
  unfold zf at hs
  split at hs
  · injection hs with hs; subst hs; injection hp with hp; rw [← hp]; exact h x
  · cases hs
end
end Go.Ab
end
section
set_option linter.unusedSimpArgs false
namespace Go.Ab
variable {U : Nat → Type} {α β γ : Type}
def resTs : List ResultVar → List Nat
  | [] => []
  | .tmp t :: l => t :: resTs l
  | .cell t _ :: l => t :: resTs l
def execF2 (E : Env U) (f : Func) (args : List (V U)) (hp : List (Blk U)) : Tree (List (V U) × List (Blk U)) :=
  bif Nat.beq hp.length E.n0 && rows0 hp && Nat.beq f.ntmps E.nt && Nat.ble args.length f.ntmps && Nat.beq f.results.size f.resultTypes.size then match f.body with
  | some c => (exec E c 0 { tm := argsT 0 args, hp }).bind fun p => match p.1 with
    | .exit _ => .fail
    | _ =>
      let σ := nrm E.n0 (resTs f.results.toList) false p.2 E.bump
      match resV E.P σ.hp.length σ (f.results.toList.zip f.resultTypes.toList) with
      | some vs => .leaf (vs, outB σ.hp.length (firstB σ.hp.length σ.hp))
      | none => .fail
  | none => .fail
  else .fail
section
variable {E : Env U}
theorem z22r (ok : CdOk E.P E.cd) (env : ∀ f p s, E.fns f = some (p, s) → FnOk E.P E.cd f s) {f : Nat} {fn : Func} (hf : E.P.funcs[f]? = some fn) (hname : (fn.name == "runtime.NumGoroutine") = false) (hl : ∀ c, fn.body = some c → LoopsOk E c 0)
    {spec : List (V U) → List (Blk U) → Option (FnOut U)} (hs : ∀ args hp r, spec args hp = some r → ∀ x, r.o = some x → ∀ p, (r.out x).run = some p → (execF2 E fn args hp).run = some p) : FnOk E.P E.cd f spec := by
  intro M Fz w hp args vargs hr ha r hsp x hx out hout
  have hrun := hs args hp r hsp x hx out hout
  unfold execF2 at hrun
  rw [cond_eq_ite] at hrun
  split at hrun
  case isFalse => cases hrun
  rename_i hc
  simp only [Bool.and_eq_true] at hc
  obtain ⟨⟨⟨⟨hc1, hc2⟩, hc3⟩, hc4⟩, hc5⟩ := hc
  have hn0 : hp.length = E.n0 := Nat.eq_of_beq_eq_true hc1
  have hnt : fn.ntmps = E.nt := Nat.eq_of_beq_eq_true hc3
  have hle : args.length ≤ fn.ntmps := Nat.le_of_ble_eq_true hc4
  have hrs : fn.results.size = fn.resultTypes.size := Nat.eq_of_beq_eq_true hc5
  split at hrun
  case h_2 => cases hrun
  rename_i c hbody
  rw [Tree.run_bind] at hrun
  obtain ⟨p, hp1, hp2⟩ := Option.bind_eq_some_iff.1 hrun
  have hI : Start E.n0 M := ⟨fun b hb => hr.out b (by omega), fun b q t v l c hb => by
    have hlt : b < hp.length := by
      rcases Nat.lt_or_ge b hp.length with h' | h'
      · exact h'
      · rw [hr.out b h'] at hb; cases hb
    have hx := List.getElem?_eq_getElem hlt
    have hbk := hr.blk b _ hx
    revert hx hbk
    generalize hp[b] = y
    intro hx hbk
    cases y with
    | dead => exact absurd (hb.symm.trans hbk) (by simp)
    | cells cs => obtain ⟨k, arr, e, e1, _⟩ := hbk; rw [hb] at e1; cases e1
    | row t' v' l' =>
      obtain ⟨pos', cap', e1, _⟩ := hbk
      rw [hb] at e1
      injection e1 with e1
      injection e1 with e1 e2 e3
      rw [e3]
      exact z1ue hc2 b t' v' l' hx
    | mrow t' v' l' =>
      obtain ⟨pos', cap', e1, _⟩ := hbk
      rw [hb] at e1
      injection e1 with e1
      injection e1 with e1 e2 e3
      rw [e3]
      exact zdt hc2 b _ hx⟩
  refine ⟨fn, hf, hname, by rw [hbody]; rfl, ?_⟩
  refine calls_of_wp hf hbody ?_
  have h0 : RSt E.P E.cd E.nt (Held M) Fz w M { tm := argsT 0 args, hp } { tmps := vargs.toArray ++ Array.replicate (fn.ntmps - vargs.toArray.size) undef, defers := [] } w := by
    refine ⟨M, Fz, ⟨hr, ?_, ?_, rfl, .refl _ _, fun k hk => .inl hk, fun k hk => hk, fun k hk => .inl hk, .refl _⟩⟩
    · intro t d ht
      obtain ⟨_, y, hy, rfl⟩ := z17v args 0 t d ht
      rw [Nat.sub_zero] at hy
      have hlt := (List.getElem?_eq_some_iff.1 hy).1
      have hlt2 : t < vargs.length := by rw [ha.1]; exact hlt
      refine ⟨vargs[t], ?_, ha.2 t y _ hy (List.getElem?_eq_getElem hlt2)⟩
      rw [Array.getElem?_append_left (by simpa using hlt2)]
      simp
    · simp [ha.1]
      omega
  refine z1wz ok env hI c 0 (hl c hbody) _ p hp1 _ w h0 _ fun a' w' h' => ?_
  have h2 := z18l ok hI (resTs fn.results.toList) false h' E.bump
  generalize nrm E.n0 (resTs fn.results.toList) false p.2 E.bump = σ at h2 hp2
  have fin : (match resV E.P σ.hp.length σ (fn.results.toList.zip fn.resultTypes.toList) with
      | some vs => Tree.leaf (vs, outB σ.hp.length (firstB σ.hp.length σ.hp))
      | none => .fail).run = some out → a'.defers = [] ∧ ∃ v, (results fn a'.tmps).run E.P w' = .ok v w' ∧ ∃ v_1, Ending.returned v = .returned v_1 ∧ Post E.P E.cd M Fz w (resD out.1) out.2 v_1 w' := by
    intro hfin
    obtain ⟨M', F', h3⟩ := h2
    refine ⟨h3.defers, ?_⟩
    split at hfin
    · rename_i vs hvs
      simp only [Tree.run, Option.some.injEq] at hfin
      rw [← hfin]
      obtain ⟨us, u1, u2⟩ := z19t ok h3.hr h3.tm σ.hp.length fn.results.toList fn.resultTypes.toList vs (by simpa using hrs) hvs
      have hpost : ∀ v, RD E.P E.cd (cutM σ.hp.length M') F' w' (resD vs) v → Post E.P E.cd M Fz w (resD vs) (outB σ.hp.length (firstB σ.hp.length σ.hp)) v w' := by
        intro v hv
        have le : ∀ b i, cutM σ.hp.length M' b = some i → M' b = some i := fun b i hb => by
          unfold cutM at hb
          split at hb
          · exact hb
          · cases hb
        refine ⟨cutM σ.hp.length M', F', hv, z1z6 ok h3.hr σ.hp.length, ?_, ?_, h3.keep, ?_, h3.f1⟩
        · intro b i hb
          obtain ⟨i', e1, e2⟩ := h3.ext b i hb
          have : b < σ.hp.length := by
            rcases Nat.lt_or_ge b σ.hp.length with h' | h'
            · exact h'
            · rw [h3.hr.out b h'] at e1; cases e1
          exact ⟨i', by simp [cutM, this, e1], e2⟩
        · intro k hk
          exact ⟨h3.f0 k hk, h3.keep.old k (hr.frz k hk) (fun ⟨b, i, e1, e2⟩ => hr.apart b i k e1 e2 hk)⟩
        · rintro k ⟨b, i, e1, e2⟩
          exact h3.own k ⟨b, i, le b i e1, e2⟩
      have hmap : ∀ (f : ResultVar → Sem Value) (l : Array ResultVar) (us : List Value), (l.toList.mapM f).run E.P w' = .ok us w' → (l.mapM f).run E.P w' = .ok us.toArray w' := by
        intro f l us hh
        rw [Array.mapM_eq_mapM_toList]
        show (do let __x ← l.toList.mapM f; pure __x.toArray : Sem (Array Value)).run E.P w' = _
        simp only [Sem.run_bind, hh, Result.andThen, Sem.run_pure]
      have hres := hmap _ _ _ u1
      refine ⟨if h : us.toArray.size = 1 then us.toArray[0] else .tuple us.toArray, ?_, _, rfl, ?_⟩
      · have hfun : results fn a'.tmps = (do let vs ← fn.results.mapM (resF a'.tmps); pure (if h : vs.size = 1 then vs[0] else .tuple vs)) := by
          unfold results
          congr 1
        rw [hfun]
        simp only [Sem.run_bind, hres, Result.andThen, Sem.run_pure]
      · refine hpost _ ?_
        have hul := u2.1
        match vs, us, u2, hul with
        | [y], [u], u2, _ => exact u2.2 0 y u rfl rfl
        | [], [], u2, _ => exact ⟨#[], rfl, u2⟩
        | y :: z :: vs, u :: u' :: us, u2, _ =>
          have : ¬ (u :: u' :: us).toArray.size = 1 := by simp
          rw [dif_neg this]
          exact ⟨_, rfl, by simpa using u2⟩
    · cases hfin
  obtain ⟨e, σ'⟩ := p
  cases e with
  | norm => exact fin hp2
  | exit id => cases hp2
  | ret => exact fin hp2
end
def execX (fresh : Bool) (E : Env U) (f : Func) (args : List (V U)) (hp : List (Blk U)) : Tree (List (V U) × List (Blk U)) := bif fresh then execF2 E f args hp else zk E f args hp
def mkSpecG (A : Arg U α) (B : Bls U γ) (F : α → γ → Option β) (out : α → γ → β → List (V U) × List (Blk U)) (args : List (V U)) (hp : List (Blk U)) : Option (FnOut U) :=
  match A.dec args, B.dec hp with
  | some x, some g => some ⟨β, F x g, fun y => .leaf (out x g y)⟩
  | _, _ => none
def zgt {β' : Type} (A : Arg U α) (B : Bls U γ) (F : α → γ → Option (β ⊕ β')) (out : α → γ → β → List (V U) × List (Blk U)) (out' : α → γ → β' → List (V U) × List (Blk U)) (args : List (V U)) (hp : List (Blk U)) : Option (FnOut U) :=
  match A.dec args, B.dec hp with
  | some x, some g => some ⟨β ⊕ β', F x g, fun y => .ite y.isLeft (.opt β y.getLeft? fun z => .leaf (out x g z)) (.opt β' y.getRight? fun z => .leaf (out' x g z))⟩
  | _, _ => none
section
variable {E : Env U}
theorem z1zd (fresh : Bool) (ok : CdOk E.P E.cd) (env : ∀ f p s, E.fns f = some (p, s) → FnOk E.P E.cd f s) {f : Nat} {fn : Func} (hf : E.P.funcs[f]? = some fn) (hname : (fn.name == "runtime.NumGoroutine") = false) (hl : ∀ c, fn.body = some c → LoopsOk E c 0)
    {spec : List (V U) → List (Blk U) → Option (FnOut U)} (hs : ∀ args hp r, spec args hp = some r → ∀ x, r.o = some x → ∀ p, (r.out x).run = some p → (execX fresh E fn args hp).run = some p) : FnOk E.P E.cd f spec := by
  cases fresh with
  | true => exact z22r ok env hf hname hl hs
  | false => exact z21o ok env hf hname hl hs
theorem z5y (fresh : Bool) (ok : CdOk E.P E.cd) (env : ∀ f p s, E.fns f = some (p, s) → FnOk E.P E.cd f s) {f : Nat} {fn : Func} (hf : E.P.funcs[f]? = some fn) (hname : (fn.name == "runtime.NumGoroutine") = false) (hl : ∀ c, fn.body = some c → LoopsOk E c 0)
    {A : Arg U α} {B : Bls U γ} (hA : A.Ok) (hB : B.Ok) {T : α → γ → Tree β} {F : α → γ → Option β} {out : α → γ → β → List (V U) × List (Blk U)} (hF : ∀ x g, F x g = (T x g).run) (hrun : ∀ x g, execX fresh E fn (A.enc x) (B.enc g) = (T x g).map (out x g)) : FnOk E.P E.cd f (mkSpecG A B F out) := by
  refine z1zd fresh ok env hf hname hl fun args hp r hs x hx p hp => ?_
  unfold mkSpecG at hs
  split at hs
  · rename_i y g h1 h2
    injection hs with hs
    subst hs
    rw [hA _ _ h1, hB _ _ h2, hrun, Tree.run_map]
    have hx : F y g = some x := hx
    have hp : some (out y g x) = some p := hp
    rw [← hF, hx, ← hp]
    rfl
  · cases hs
theorem z1jz {β' : Type} (fresh : Bool) (ok : CdOk E.P E.cd) (env : ∀ f p s, E.fns f = some (p, s) → FnOk E.P E.cd f s) {f : Nat} {fn : Func} (hf : E.P.funcs[f]? = some fn) (hname : (fn.name == "runtime.NumGoroutine") = false) (hl : ∀ c, fn.body = some c → LoopsOk E c 0)
    {A : Arg U α} {B : Bls U γ} (hA : A.Ok) (hB : B.Ok) {T : α → γ → Tree (β ⊕ β')} {F : α → γ → Option (β ⊕ β')} {out : α → γ → β → List (V U) × List (Blk U)} {out' : α → γ → β' → List (V U) × List (Blk U)} (hF : ∀ x g, F x g = (T x g).run)
    (hrun : ∀ x g, execX fresh E fn (A.enc x) (B.enc g) = (T x g).map (Sum.elim (out x g) (out' x g))) : FnOk E.P E.cd f (zgt A B F out out') := by
  refine z1zd fresh ok env hf hname hl fun args hp r hs x hx p hp => ?_
  unfold zgt at hs
  split at hs
  · rename_i y g h1 h2
    injection hs with hs
    subst hs
    rw [hA _ _ h1, hB _ _ h2, hrun, Tree.run_map]
    have hx : F y g = some x := hx
    rw [← hF, hx]
    cases x with
    | inl z => exact hp
    | inr z => exact hp
  · cases hs
end
def orSpec (s t : List (V U) → List (Blk U) → Option (FnOut U)) (args : List (V U)) (hp : List (Blk U)) : Option (FnOut U) := match s args hp with
  | some r => some r
  | none => t args hp
theorem z18r {P : Program} {cd : Cd U} {f : Nat} {s t : List (V U) → List (Blk U) → Option (FnOut U)} (hs : FnOk P cd f s) (ht : FnOk P cd f t) : FnOk P cd f (orSpec s t) := by
  intro M Fz w hp args vargs h1 h2 r hr
  unfold orSpec at hr
  split at hr
  · rename_i r' e
    injection hr with hr
    subst hr
    exact hs M Fz w hp args vargs h1 h2 r' e
  · exact ht M Fz w hp args vargs h1 h2 r hr
def sameL : List (C U) → List (C U) → Bool
  | [], [] => true
  | x :: l, y :: k => bif sameC x y then sameL l k else false
  | _, _ => false
theorem z117 : ∀ {l k : List (C U)}, sameL l k = true → k = l
  | [], [], _ => rfl
  | x :: l, y :: k, h => by
    simp only [sameL, cond_eq_ite] at h
    split at h
    · rename_i hx
      rw [z1fb hx, z117 h]
    · cases h
  | [], _ :: _, h => by cases h
  | _ :: _, [], h => by cases h
def sameC2 : C U → C U → Bool
  | .fn f p a, .fn f' q b => bif Nat.beq f f' && sameL p q then sameL a b else false
  | x, z => sameC x z
theorem z205 {x z : C U} (h : sameC2 x z = true) : z = x := by
  unfold sameC2 at h
  split at h
  · rw [cond_eq_ite] at h
    split at h
    · rename_i hf
      simp only [Bool.and_eq_true] at hf
      rw [Nat.eq_of_beq_eq_true hf.1, z117 hf.2, z117 h]
    · cases h
  · exact z1fb h
def cK2 (x : C U) (c : Cdc U α) : Cdc U α := cLit x (sameC2 x) c
theorem zfk {x : C U} {c : Cdc U α} (hc : c.Ok) : (cK2 x c).Ok := z1wu hc fun _ h => z205 h
def aF (f : Nat) (cs : List (C U)) (r : Arg U β) : Arg U β := ⟨fun x => .one (.fn f [] cs) :: r.enc x, fun
  | .one (.fn f' [] cs') :: l => bif Nat.beq f' f && sameL cs cs' then r.dec l else none
  | _ => none⟩
theorem zg8 {f : Nat} {cs : List (C U)} {r : Arg U β} (hr : r.Ok) : (aF f cs r).Ok := by
  intro vs x h
  simp only [aF, cond_eq_ite] at h
  split at h
  · split at h
    · rename_i hb
      simp only [Bool.and_eq_true] at hb
      rw [hr _ _ h, Nat.eq_of_beq_eq_true hb.1, z117 hb.2]
      rfl
    · cases h
  · cases h
end Go.Ab
end
section
set_option linter.unusedSimpArgs false
namespace Go.Ab
variable {U : Nat → Type} {α β γ : Type}
theorem z19q {δ ε : Type} {f g : δ → ε} : ∀ {l : List δ}, l.map f = l.map g → ∀ x, x ∈ l → f x = g x
  | [], _, x, h => by cases h
  | y :: l, e, x, h => by
    simp only [List.map_cons, List.cons.injEq] at e
    rcases List.mem_cons.1 h with rfl | h
    · exact e.1
    · exact z19q e.2 x h
theorem z1ox {A : Arg U α} {B : Bls U γ} (hB : B.Ok) {F : α → γ → Option β} {out : α → γ → β → List (V U) × List (Blk U)} {js : List Nat}
    (h : ∀ x g y, (js.map fun j => (out x g y).2[j]?) = js.map fun j => (B.enc g)[j]?) : Keeps (mkSpecG A B F out) js := by
  intro args hp r hs x hx p hp1 j hj
  unfold mkSpecG at hs
  split at hs
  · rename_i y g h1 h2
    injection hs with hs
    subst hs
    have hp1 : some (out y g x) = some p := hp1
    injection hp1 with hp1
    subst hp1
    have hk := hB _ _ h2
    subst hk
    exact z19q (h y g x) j hj
  · cases hs
theorem zz6 {β' : Type} {A : Arg U α} {B : Bls U γ} (hB : B.Ok) {F : α → γ → Option (β ⊕ β')} {out : α → γ → β → List (V U) × List (Blk U)} {out' : α → γ → β' → List (V U) × List (Blk U)} {js : List Nat}
    (h : ∀ x g y, (js.map fun j => (out x g y).2[j]?) = js.map fun j => (B.enc g)[j]?) (h' : ∀ x g y, (js.map fun j => (out' x g y).2[j]?) = js.map fun j => (B.enc g)[j]?) : Keeps (zgt A B F out out') js := by
  intro args hp r hs x hx p hp1 j hj
  unfold zgt at hs
  split at hs
  · rename_i y g h1 h2
    injection hs with hs
    subst hs
    have hk := hB _ _ h2
    subst hk
    cases x with
    | inl z =>
      have hp1 : some (out y g z) = some p := hp1
      injection hp1 with hp1
      subst hp1
      exact z19q (h y g z) j hj
    | inr z =>
      have hp1 : some (out' y g z) = some p := hp1
      injection hp1 with hp1
      subst hp1
      exact z19q (h' y g z) j hj
  · cases hs
theorem Keeps.sub {s : List (V U) → List (Blk U) → Option (FnOut U)} {js js' : List Nat} (h : Keeps s js) (hs : js'.all (fun j => js.contains j) = true) : Keeps s js' := by
  intro args hp r hr x hx p hp1 j hj
  exact h args hp r hr x hx p hp1 j (by have := List.all_eq_true.1 hs j hj; simpa using this)
def mkLoopK {κ σ : Type} (A : Tms U α) (B : Bls U γ) (f : α → γ → κ × σ) (L : κ → σ → Option β) (out : κ → β → Tree (Ex × St U)) (s : St U) : Option (LpOut U) :=
  match A.dec s.tm, B.dec s.hp with
  | some x, some g => some ⟨β, L (f x g).1 (f x g).2, out (f x g).1⟩
  | _, _ => none
theorem zah {E : Env U} {κ σ : Type} {hd : Hd} {c : Code} {j : Nat} {A : Tms U α} {B : Bls U γ} (hA : A.Ok) (hB : B.Ok) {f : α → γ → κ × σ} {enc : κ → σ → St U} {L : κ → σ → Option β} {out : κ → β → Tree (Ex × St U)} {outS : κ → β → Ex × St U} {step : κ → σ → Tree (σ ⊕ β)}
    (hL : ∀ k s, L k s = lim (fun a => (step k a).run) s) (he : ∀ x g, enc (f x g).1 (f x g).2 = { tm := A.enc x, hp := B.enc g }) (hlp : E.lps j = some (hd, mkLoopK A B f L out)) (ho : ∀ k b, (out k b).run = some (outS k b))
    (hr : ∀ k a, round E hd c j (enc k a) = (step k a).map (sumE (enc k) (outS k))) : LpOk E c j := by
  intro h spec hs s r x p hsp hx hp
  rw [hlp] at hs
  simp only [Option.some.injEq, Prod.mk.injEq] at hs
  obtain ⟨rfl, rfl⟩ := hs
  unfold mkLoopK at hsp
  split at hsp
  · rename_i y g h1 h2
    injection hsp with hsp
    subst hsp
    have hst : s = enc (f y g).1 (f y g).2 := by
      rw [he]
      cases s
      simp only [St.mk.injEq]
      exact ⟨hA _ _ h1, hB _ _ h2⟩
    rw [hst]
    have hx : L (f y g).1 (f y g).2 = some x := hx
    rw [hL] at hx
    exact z1xc (ho _) (hr _) hx hp
  · cases hsp
theorem z1xa {fns : Nat → Option (Bool × (List (V U) → List (Blk U) → Option (FnOut U)))} : ∀ f q s, fns f = some (q, s) → Keeps s ((fun _ => []) f) := fun _ _ _ _ _ _ _ _ _ _ _ _ _ h => absurd h List.not_mem_nil
theorem z1jq {fns : Nat → Option (Bool × (List (V U) → List (Blk U) → Option (FnOut U)))} {n : Nat} {js : List Nat} {q0 : Bool} {s0 : List (V U) → List (Blk U) → Option (FnOut U)} {kps : Nat → List Nat}
    (h : fns n = some (q0, s0)) (hk : Keeps s0 js) (hr : ∀ f q s, fns f = some (q, s) → Keeps s (kps f)) : ∀ f q s, fns f = some (q, s) → Keeps s ((fun f => bif Nat.beq f n then js else kps f) f) := by
  intro f q s hf
  simp only [cond_eq_ite]
  split
  · rename_i e
    obtain rfl := Nat.eq_of_beq_eq_true e
    rw [h] at hf
    injection hf with hf
    injection hf with h1 h2
    subst h2
    exact hk
  · exact hr f q s hf
end Go.Ab
end
section
set_option linter.unusedSimpArgs false
namespace Go.Ab
open Go.Shelf Go.RowKit Go.Lib Go.Proofs
variable {U : Nat → Type}
section
variable {P : Program} {cd : Cd U} {ρ : Ren}
def copies (l : List UInt8) : Nat → List UInt8
  | 0 => []
  | c + 1 => l ++ copies l c
theorem z1mg (l : List UInt8) : ∀ c, Lib.repeatL l c = copies l c
  | 0 => rfl
  | c + 1 => by rw [Lib.repeatL, copies, z1mg l c]
def repF (s : List UInt8) (n : Int) : Option (List UInt8) := if 0 ≤ n ∧ n ≤ 9223372036854775807 ∧ (s.length : Int) * n ≤ 140737488355328 then some (copies s n.toNat) else none
theorem z230 (L : Lays.n105 P ρ) (X : Builder.Extra P ρ) {f : Nat} {fn : Func} (hf : P.funcs[f]? = some fn) (hname : (fn.name == "runtime.NumGoroutine") = false) (hb : fn.body.isSome = true) (hff : ρ.f 105 = f) : FnOk P cd f (zf (aO cStr (aO (cInt .i64) aNil) : Arg U (List UInt8 × Int × Unit)) bNil (fun x _ => repF x.1 x.2.1) fun r => ([vO cStr r], [])) := by
  subst hff
  intro M Fz w hp args vargs hhr hargs r hs x hx p hp1
  unfold zf at hs
  split at hs
  · rename_i y g h1 h2
    injection hs with hs
    subst hs
    have hx : repF y.1 y.2.1 = some x := hx
    unfold repF at hx
    split at hx
    · rename_i hlen
      obtain ⟨q0, q1, q2⟩ := hlen
      injection hx with hx
      have hp1 : some (([vO cStr x], []) : List (V U) × List (Blk U)) = some p := hp1
      injection hp1 with hp1
      subst hp1
      have ha := (ze z5a (ze (z3 .i64) (zd (U := U)))) _ _ h1
      have hbk := (z7 (U := U)) _ _ h2
      have hp0 : hp = [] := hbk
      subst hp0
      have ha : args = [.one (.str y.1), .one (.int .i64 y.2.1)] := ha
      subst ha
      refine ⟨fn, hf, hname, hb, ?_⟩
      obtain ⟨u, v, rfl⟩ : ∃ u v, vargs = [u, v] := by
        have := hargs.1
        match vargs, this with
        | [u, v], _ => exact ⟨u, v, rfl⟩
      have h0 : R1 P cd M Fz w (.str y.1) u := hargs.2 0 _ u rfl rfl
      have h1' : R1 P cd M Fz w (.int .i64 y.2.1) v := hargs.2 1 _ v rfl rfl
      cases h0
      cases h1'
      have hM : ∀ b, M b = none := fun b => hhr.out b (Nat.zero_le _)
      obtain ⟨n, hn⟩ : ∃ n : Nat, y.2.1 = (n : Int) := ⟨y.2.1.toNat, by omega⟩
      rw [hn] at q1 q2 hx ⊢
      have hsz : (⟨y.1.toArray⟩ : ByteArray).size = y.1.length := by simp [ByteArray.size]
      have q3 : y.1.length * n ≤ 140737488355328 := by
        have : ((y.1.length * n : Nat) : Int) ≤ 140737488355328 := by rw [Int.natCast_mul]; exact q2
        omega
      refine (Any.strings_Repeat L X ⟨y.1.toArray⟩ n w (by omega) (by rw [hsz]; exact q3)).mono fun e w' ⟨he, hbel⟩ => ⟨_, he, ?_⟩
      refine ⟨M, Fz, ?_, ?_, .refl _, fun k hk => ⟨hk, hbel.block k (hhr.frz k hk)⟩, ⟨hbel.os, hbel.tape, hbel.output, hbel.size, fun k hk _ => hbel.block k hk⟩, fun k hk => .inl hk, fun k hk => .inl hk⟩
      · subst hx
        rw [z1mg, Int.toNat_natCast]
        exact R1.str _
      · refine ⟨fun b z hz => absurd hz (by simp), fun b _ => hM b, fun b b' i i' k h3 => absurd h3 (by rw [hM]; simp), fun b i k h3 => absurd h3 (by rw [hM]; simp), hhr.fz.mono (fun k hk => ⟨hk, hbel.block k (hhr.frz k hk)⟩) fun k hk => ?_, fun b i k h3 => absurd h3 (by rw [hM]; simp)⟩
        have := hhr.frz k hk
        have := hbel.size
        omega
    · cases hx
  · cases hs
end
end Go.Ab
end
section
set_option linter.unusedSimpArgs false
namespace Go.Ab
open Go.RowKit
variable {U : Nat → Type}
def wornF (l : List Int) : Option (List Int) := if l.length ≤ 140737488355328 then some l else none
def TrueMap (w : World) (b : Nat) (l : List Int) : Prop :=
  ∃ es ck, w.heap[b]? = some (.map es ck) ∧ (∀ e ∈ es, ∃ n, e.key = .int .i64 n ∧ e.val = .bool true) ∧ ∀ n, n ∈ l ↔ ∃ e ∈ es, e.key = .int .i64 n
theorem z19i (w : World) {n : Nat} (h : n = w.heap.size) : TrueMap (w.alloc (.map #[] 0)) n [] := by
  subst h; exact ⟨#[], 0, (MapKept.heap_alloc w _).1, by simp, by simp⟩
theorem TrueMap.update {P : Program} {w : World} {b : Nat} {l : List Int} (h : TrueMap w b l) {t k e : Nat} (ht : P.underlying t = some (.map k e)) (hk : P.underlying k = some (.int .i64)) (n : Int) :
    ∃ w', (Instr.mapUpdate t (.map (some b)) (.int .i64 n) (.bool true)).run P w = .ok () w' ∧ TrueMap w' b (l ++ [n]) ∧ w.grownBy w' (some b) := by
  obtain ⟨es, ck, hb, h1, h2⟩ := h
  have hik : MapKept.IsKey (.int .i64) (.int .i64 n) := rfl
  have hks : ∀ x ∈ es.toList, MapKept.IsKey (.int .i64) x.key := fun x hx => by
    obtain ⟨m, hm, _⟩ := h1 x (by simpa using hx)
    rw [hm]; rfl
  rcases MapKept.findNow_spec hik es.toList 0 hks with ⟨f1, f2⟩ | ⟨j, x, f1, f2, f3⟩
  · refine ⟨{ w with heap := w.heap.setIfInBounds b (.map (es.push { key := .int .i64 n, val := .bool true, born := ck }) (ck + 1)) }, by
      simp [Instr.mapUpdate, run_underlying ht, MapKept.run_getObj_map hb, MapKept.run_checkKey hk hik, MapKept.run_findKey hk f1, MapKept.run_setObj_map _ hb, Result.andThen], ⟨es.push { key := .int .i64 n, val := .bool true, born := ck }, ck + 1, (MapKept.heap_set hb).1, ?_, ?_⟩, ⟨rfl, rfl, rfl, by simp, fun i _ hi => (MapKept.heap_set hb).2 i (fun e => hi (by rw [e]))⟩⟩
    · intro x hx
      rcases Array.mem_push.1 hx with hx | rfl
      · exact h1 x hx
      · exact ⟨n, rfl, rfl⟩
    · intro m
      rw [List.mem_append, h2 m]
      constructor
      · rintro (⟨x, hx, hm⟩ | hm)
        · exact ⟨x, Array.mem_push.2 (.inl hx), hm⟩
        · rw [List.mem_singleton] at hm
          subst hm
          exact ⟨_, Array.mem_push.2 (.inr rfl), rfl⟩
      · rintro ⟨x, hx, hm⟩
        rcases Array.mem_push.1 hx with hx | rfl
        · exact .inl ⟨x, hx, hm⟩
        · injection hm with _ hm
          exact .inr (by simp [hm])
  · have hj : es[j]? = some x := by simpa using f2
    refine ⟨{ w with heap := w.heap.setIfInBounds b (.map (es.modify j fun e => { e with key := .int .i64 n, val := .bool true }) ck) }, by
      simp [Instr.mapUpdate, run_underlying ht, MapKept.run_getObj_map hb, MapKept.run_checkKey hk hik, MapKept.run_findKey hk f1, hj, f3, MapKept.run_keyThatStays hik, MapKept.run_setObj_map _ hb, Result.andThen], ⟨es.modify j fun e => { e with key := .int .i64 n, val := .bool true }, ck, (MapKept.heap_set hb).1, ?_, ?_⟩, ⟨rfl, rfl, rfl, by simp, fun i _ hi => (MapKept.heap_set hb).2 i (fun e => hi (by rw [e]))⟩⟩
    · intro y hy
      obtain ⟨i, hi⟩ := Array.getElem?_of_mem hy
      rw [Array.getElem?_modify] at hi
      split at hi
      · obtain ⟨z, _, rfl⟩ := Option.map_eq_some_iff.1 hi
        exact ⟨n, rfl, rfl⟩
      · exact h1 y (Array.mem_of_getElem? hi)
    · intro m
      rw [List.mem_append, h2 m]
      constructor
      · rintro (⟨y, hy, hm⟩ | hm)
        · obtain ⟨i, hi⟩ := Array.getElem?_of_mem hy
          by_cases hij : j = i
          · subst hij
            rw [hj] at hi
            injection hi with hi
            subst hi
            rw [f3] at hm
            exact ⟨_, Array.mem_of_getElem? (i := j) (by rw [Array.getElem?_modify, if_pos rfl, hj]; rfl), hm⟩
          · exact ⟨y, Array.mem_of_getElem? (i := i) (by rw [Array.getElem?_modify, if_neg hij]; exact hi), hm⟩
        · rw [List.mem_singleton] at hm
          subst hm
          exact ⟨_, Array.mem_of_getElem? (i := j) (by rw [Array.getElem?_modify, if_pos rfl, hj]; rfl), rfl⟩
      · rintro ⟨y, hy, hm⟩
        obtain ⟨i, hi⟩ := Array.getElem?_of_mem hy
        rw [Array.getElem?_modify] at hi
        split at hi
        · obtain ⟨z, _, rfl⟩ := Option.map_eq_some_iff.1 hi
          injection hm with _ hm
          exact .inr (by simp [hm])
        · exact .inl ⟨y, Array.mem_of_getElem? hi, hm⟩
theorem TrueMap.kept {w w' : World} {b : Nat} {l : List Int} {row : Option Nat} (h : TrueMap w b l) (hg : w.grownBy w' row) (hne : some b ≠ row) : TrueMap w' b l := by
  obtain ⟨es, ck, hb, r⟩ := h
  exact ⟨es, ck, (hg.block b (Array.getElem?_eq_some_iff.1 hb).1 hne).trans hb, r⟩
theorem zzk {P : Program} (w : World) {ops : Array Oper} {rest : List Oper} {o : Oper} {a : Act} {Q : Exit → Act → World → Prop}
    (hg : o.guard = none) (m x v : Operand) (t : TypeId) (hop : o.op = Op.mapUpdate t m x v) (k e : TypeId) (ht : P.underlying t = some (.map k e)) (hk : P.underlying k = some (.int .i64)) (b : Nat) (l : List Int)
    (hm : a.eval m = .map (some b)) (hown : TrueMap w b l) (n : Int) (hx : a.eval x = .int .i64 n) (hv : a.eval v = .bool true)
    (hK : ∀ w', TrueMap w' b (l ++ [n]) → w.grownBy w' (some b) → wpList P ops Q rest (a.put o.dst undef) w') :
    wpList P ops Q (o :: rest) a w := by
  refine wpList_plain hg fun K' hK' => ?_
  obtain ⟨w', hrun, r1, r2⟩ := hown.update (P := P) ht hk n
  unfold Oper.wp
  simp [execOp, hop, hm, hx, hv, hrun, Result.andThen]
  exact hK' _ _ (hK w' r1 r2)
section
variable {P : Program} {cd : Cd U} {α β : Type}
theorem z1rh {e : Nat} (g : U e → Int) (h : ∀ x, cd.enc e x = [.int .i64 (g x)]) (l : List (U e)) : l.flatMap (cd.enc e) = (l.map g).map fun n => .int .i64 n := by
  induction l with
  | nil => rfl
  | cons x l ih => simp [h, ih]
theorem z22h {f : Nat} {fn : Func} {c : Cdc U α} {bad : α → List Int} (hc : c.Ok) (hf : P.funcs[f]? = some fn) (hname : (fn.name == "runtime.NumGoroutine") = false) (hb : fn.body.isSome = true)
    (henc : ∀ x, ∃ e0 e, ∃ l0 : List (U e0), ∃ l : List (U e), c.enc x = [.sl e0 l0 false, .sl e l false] ∧ l.flatMap (cd.enc e) = ((bad x).map fun n => .int .i64 n) ∧ l.length = (bad x).length)
    (walk : ∀ (s1 : Value) (a : Option Addr) (l : List Int) (cap : Nat) (w : World), l.length ≤ 140737488355328 → (l ≠ [] → ∃ k o, a = some (at0 k o) ∧ k < w.heap.size ∧ ∀ j, j < l.length → w.cell? ⟨k, o + j, none⟩ = some (.int .i64 (l.getD j 0))) →
      Calls P f #[.agg #[s1, .slice a l.length cap]] w fun e w' => ∃ r, e = .returned (.map (some r)) ∧ w.heap.size ≤ r ∧ TrueMap w' r l ∧ Below w.heap.size w w') :
    FnOk P cd f (zf (aA c aNil : Arg U (α × Unit)) bNil (fun x _ => wornF (bad x.1)) fun r => ([vO cMp r], [])) := by
  intro M Fz w hp args vargs hhr hargs r hs x hx p hp1
  unfold zf at hs
  split at hs
  · rename_i y g h1 h2
    injection hs with hs
    subst hs
    have hx : wornF (bad y.1) = some x := hx
    unfold wornF at hx
    split at hx
    rotate_left
    · cases hx
    rename_i hsm
    injection hx with hx
    have hp1 : some (([vO cMp x], []) : List (V U) × List (Blk U)) = some p := hp1
    injection hp1 with hp1
    subst hp1
    have ha := (zu hc (zd (U := U))) _ _ h1
    have hbk := (z7 (U := U)) _ _ h2
    have hp0 : hp = [] := hbk
    subst hp0
    have ha : args = [.agg (c.enc y.1)] := ha
    subst ha
    refine ⟨fn, hf, hname, hb, ?_⟩
    obtain ⟨u, rfl⟩ : ∃ u, vargs = [u] := by
      have := hargs.1
      match vargs, this with
      | [u], _ => exact ⟨u, rfl⟩
    have h0 : RV P cd M Fz w (.agg (c.enc y.1)) u := hargs.2 0 _ u rfl rfl
    obtain ⟨a, rfl, hr⟩ := h0
    obtain ⟨e0, e, l0, l, he, hfl, hll⟩ := henc y.1
    rw [he] at hr
    obtain ⟨_, hl2, hr⟩ := hr
    obtain ⟨al⟩ := a
    match al, hl2, hr with
    | [s1, s2], _, hr =>
      have r2 : R1 P cd M Fz w (.sl e l false) s2 := hr 1 _ _ rfl rfl
      cases r2 with
      | sl _ _ _ ad cap fv q1 q2 q3 q4 =>
        rw [hll]
        refine (walk s1 ad (bad y.1) cap w hsm fun hne => ?_).mono fun ex w' ⟨rr, he, hrr, htm, hbel⟩ => ⟨_, he, ?_⟩
        · have hl : l ≠ [] := fun h => hne (List.eq_nil_of_length_eq_zero (by rw [← hll, h]; rfl))
          obtain ⟨k, o, had, hk, hcell⟩ := q3 hl
          refine ⟨k, o, had, hhr.frz k hk, fun j hj => ?_⟩
          have hg : (l.flatMap (cd.enc e))[j]? = some (.int .i64 ((bad y.1).getD j 0)) := by
            rw [hfl, List.getElem?_map, List.getElem?_eq_getElem hj]
            simp [List.getD, List.getElem?_eq_getElem hj]
          rw [show (⟨k, o + j, none⟩ : Addr) = at0 k (o + j) from rfl, hcell j _ hg, R1.int_inv (q4 j _ hg)]
        · obtain ⟨es, ck, m1, m2, m3⟩ := htm
          have hold : ∀ k, k < w.heap.size → w'.heap[k]? = w.heap[k]? := fun k hk => hbel.block k hk
          have hM : ∀ b, M b = none := fun b => hhr.out b (Nat.zero_le _)
          have hlt : rr < w'.heap.size := (Array.getElem?_eq_some_iff.1 m1).1
          have hfz : Frz Fz w (fun k => Fz k ∨ k = rr) w' := fun k hk => ⟨.inl hk, hold k (hhr.frz k hk)⟩
          refine ⟨M, fun k => Fz k ∨ k = rr, ?_, ?_, .refl _, hfz, ⟨hbel.os, hbel.tape, hbel.output, hbel.size, fun k hk _ => hold k hk⟩, fun k hk => .inl hk, fun k hk => ?_⟩
          · subst hx
            exact R1.mp (bad y.1) rr es ck (.inr rfl) m1 m2 m3
          · refine ⟨fun b z hz => absurd hz (by simp), fun b _ => hM b, fun b b' i i' k h3 => absurd h3 (by rw [hM]; simp), fun b i k h3 => absurd h3 (by rw [hM]; simp), hhr.fz.mono hfz fun k hk => ?_, fun b i k h3 => absurd h3 (by rw [hM]; simp)⟩
            rcases hk with hk | hk
            · have := hhr.frz k hk
              have := hbel.size
              omega
            · omega
          · rcases hk with hk | hk
            · exact .inl hk
            · exact .inr (.inr (by omega))
  · cases hs
theorem z21m {f : Nat} {fn : Func} {e0 e : Nat} {g : U e → Int} (hg : ∀ x, cd.enc e x = [.int .i64 (g x)]) (hf : P.funcs[f]? = some fn) (hname : (fn.name == "runtime.NumGoroutine") = false) (hb : fn.body.isSome = true)
    (walk : ∀ (s1 : Value) (a : Option Addr) (l : List Int) (cap : Nat) (w : World), l.length ≤ 140737488355328 → (l ≠ [] → ∃ k o, a = some (at0 k o) ∧ k < w.heap.size ∧ ∀ j, j < l.length → w.cell? ⟨k, o + j, none⟩ = some (.int .i64 (l.getD j 0))) →
      Calls P f #[.agg #[s1, .slice a l.length cap]] w fun e w' => ∃ r, e = .returned (.map (some r)) ∧ w.heap.size ≤ r ∧ TrueMap w' r l ∧ Below w.heap.size w w') :
    FnOk P cd f (mkSpecG (aA (cK (.row 0 0) (cK (.row 1 0) z1)) aNil : Arg U (Unit × Unit)) (bR e0 (bR e bNil)) (fun _ p => wornF (p.2.1.map g)) fun _ p r => ([vO cMp r], [.row e0 0 p.1, .row e 0 p.2.1])) := by
  intro M Fz w hp args vargs hhr hargs r hs x hx p hp1
  unfold mkSpecG at hs
  split at hs
  · rename_i y gg h1 h2
    injection hs with hs
    subst hs
    obtain ⟨l0, l, uu⟩ := gg
    have hx : wornF (l.map g) = some x := hx
    unfold wornF at hx
    split at hx
    rotate_left
    · cases hx
    rename_i hsm
    injection hx with hx
    have hp1 : some (([vO cMp x], [.row e0 0 l0, .row e 0 l]) : List (V U) × List (Blk U)) = some p := hp1
    injection hp1 with hp1
    subst hp1
    have ha := (zu (z10 (z10 z6)) (zd (U := U))) _ _ h1
    have hbk := (zbu (zbu (z7 (U := U)))) _ _ h2
    have hp0 : hp = [.row e0 0 l0, .row e 0 l] := hbk
    subst hp0
    have ha : args = [.agg [.row 0 0, .row 1 0]] := ha
    subst ha
    refine ⟨fn, hf, hname, hb, ?_⟩
    obtain ⟨u, rfl⟩ : ∃ u, vargs = [u] := by
      have := hargs.1
      match vargs, this with
      | [u], _ => exact ⟨u, rfl⟩
    have h0 : RV P cd M Fz w (.agg [.row 0 0, .row 1 0]) u := hargs.2 0 _ u rfl rfl
    obtain ⟨a, rfl, hr⟩ := h0
    obtain ⟨_, hl2, hr⟩ := hr
    obtain ⟨al⟩ := a
    match al, hl2, hr with
    | [s1, s2], _, hr =>
      have r2 : R1 P cd M Fz w (.row 1 0) s2 := hr 1 _ _ rfl rfl
      obtain ⟨ad, cap, rfl, hcell⟩ : ∃ ad cap, s2 = .slice ad l.length cap ∧ (l ≠ [] → ∃ k o, ad = some (at0 k o) ∧ k < w.heap.size ∧ ∀ j, j < (l.map g).length → w.cell? ⟨k, o + j, none⟩ = some (.int .i64 ((l.map g).getD j 0))) := by
        cases r2 with
        | row _ _ pos t ver len cap _ hm hle hsc hval =>
          obtain ⟨rfl, rfl, rfl, hpos⟩ := hhr.row_at (b := 1) rfl hm
          have hval := hval rfl
          cases pos with
          | none =>
            obtain ⟨ad, rfl⟩ := hval
            have hl : l = [] := hpos
            subst hl
            exact ⟨ad, 0, rfl, fun h => absurd rfl h⟩
          | some k =>
            obtain ⟨cur, ok⟩ := hpos
            have hval : s2 = .slice (some (at0 k 0)) l.length cap := hval
            refine ⟨_, cap, hval, fun _ => ⟨k, 0, rfl, (Array.getElem?_eq_some_iff.1 ok.heap).1, fun j hj => ?_⟩⟩
            have hgj : (l.flatMap (cd.enc t))[j]? = some (.int .i64 ((l.map g).getD j 0)) := by
              rw [z1rh g hg, List.getElem?_map, List.getElem?_eq_getElem hj]
              simp only [Option.map_some, List.getD, List.getElem?_eq_getElem hj, Option.getD_some]
            obtain ⟨v, c1, c2⟩ := ok.cells j _ hgj
            rw [R1.int_inv c2] at c1
            simp only [World.cell?, ok.heap, Nat.zero_add]
            exact c1
      have hlen : l.length = (l.map g).length := by rw [List.length_map]
      rw [hlen]
      refine (walk s1 ad (l.map g) cap w hsm fun hne => hcell fun h => hne (by rw [h]; rfl)).mono fun ex w' ⟨rr, he, hrr, htm, hbel⟩ => ⟨_, he, ?_⟩
      obtain ⟨es, ck, m1, m2, m3⟩ := htm
      have hold : ∀ k, k < w.heap.size → w'.heap[k]? = w.heap[k]? := fun k hk => hbel.block k hk
      have hlt : rr < w'.heap.size := (Array.getElem?_eq_some_iff.1 m1).1
      have hf : Frz Fz w (fun k => Fz k ∨ k = rr) w' := fun k hk => ⟨.inl hk, hold k (hhr.frz k hk)⟩
      have hsz := hbel.size
      refine ⟨M, fun k => Fz k ∨ k = rr, ?_, ?_, .refl _, hf, ⟨hbel.os, hbel.tape, hbel.output, hbel.size, fun k hk _ => hold k hk⟩, fun k hk => .inl hk, fun k hk => ?_⟩
      · subst hx
        exact R1.mp (l.map g) rr es ck (.inr rfl) m1 m2 m3
      · refine ⟨fun b x hx => RB.grow (hhr.blk b x hx) hf (fun k i h3 h4 => hold k (hhr.lt b i k h3 h4)), hhr.out, hhr.inj, fun b i k h3 h4 h5 => ?_, hhr.fz.mono hf fun k hk => ?_, fun b i k h3 h4 => by have := hhr.lt b i k h3 h4; omega⟩
        · rcases h5 with h5 | h5
          · exact hhr.apart b i k h3 h4 h5
          · have := hhr.lt b i k h3 h4; omega
        · rcases hk with hk | hk
          · have := hhr.frz k hk; omega
          · omega
      · rcases hk with hk | hk
        · exact .inl hk
        · exact .inr (.inr (by omega))
  · cases hs
end
end Go.Ab
end
section
set_option linter.unusedSimpArgs false
namespace Go.Ab
open Go.Shelf Go.RowKit Go.Lib Go.Proofs
variable {U : Nat → Type}
section
variable {P : Program} {cd : Cd U} {ρ : Ren}
set_option maxHeartbeats 2000000 in
set_option maxRecDepth 100000 in
theorem z20p (L : SlLaysE0.n41 P ρ) (i0 : TypeInfo) (z : Value) (size bytes : Nat) (hi : P.info? (ρ.t 23) = some i0) (hz0 : i0.zero = some z) (hz1 : i0.size = size) (hz2 : i0.bytes = bytes) (hzs : z.cells.size = size) (hsz : 0 < size)
    (z23 : ∀ w, (Go.sizeOf (ρ.t 23)).run P w = .ok size w) (ad : Addr) (n c : Nat) (news : List Value) (w : World) (hl : news.length = n * size) (hn : n ≤ maxLen) (hbig : n * bytes ≤ 140737488355328)
    (hc : ∀ j u, news[j]? = some u → w.cell? (ad.add j) = some u) (h1 : ∀ u ∈ news, u.oneCell' = true) :
    Calls P (ρ.f 41) #[.slice (some ad) n c] w fun e w' => ∃ v', e = .returned v' ∧ w'.ownsRow w.heap.size (ρ.t 23) size v' n news ∧ v' ≠ .slice none 0 0 ∧ Below w.heap.size w w' := by
  have mixed := L.mixed; have t4 := L.t4; have a4 := L.a4; have z4 := L.z4; have v4 := L.v4; have t22 := L.t22; have a22 := L.a22; have z22 := L.z22; have v22 := L.v22
  have q22 : ∀ (w : World) (a : Option Addr) (n c n' c' : Nat), (binOp .eql (ρ.t 22) (.slice a n c) (.slice none n' c')).run P w = .ok (.bool a.isNone) w := fun w a n c n' c' => Lib.run_eql_slice_nil w _ _ a n c n' c' L.t22
  have u22 : ∀ w, Sem.run P (underlying (ρ.t 22)) w = .ok (TypeDesc.slice (ρ.t 23)) w := run_underlying t22
  have A : Aside (∀ j u, news[j]? = some u → w.cell? (ad.add j) = some u) := hc
  clear hc
  obtain ⟨_, _, FG⟩ := L.f41
  go_enter FG, SlBodyN.n41_ntmps ρ
  go_wp2_with (at_builtin; refine wpList_append_own _ rfl _ _ (ρ.t 22) rfl w.heap.size (ρ.t 23) i0 z size bytes t22 hi hz0 hz1 hz2 hzs hsz _ _ _ rfl (World.ownsRow_made w #[] 0 (Nat.le_refl _) (Nat.zero_le _) (by simp)) ad n c news rfl ?qc1 ?qc2 ?qc3 ?qc4 ?qc5 ?qc6 ?_)
  case qc1 => exact hl
  case qc2 =>
    intro j u hj
    exact Lib.cell?_alloc_some _ (A.out j u hj)
  case qc3 => exact h1
  case qc4 => rw [Nat.zero_add]; exact hn
  case qc5 => rw [Nat.zero_add]; exact hbig
  case qc6 => simp
  intro v' w1 hown hgrow hnil
  go_wp2
  go_ret
  refine ⟨v', rfl, by simpa using hown, ?_, ?_⟩
  · exact hnil
  · exact ((Below.refl _ w).alloc (Nat.le_refl _) _).grown hgrow (by simp) (by intro k hk; simp [Value.ownBlock] at hk; omega)
def cloneF {α : Type} (bytes : Nat) (l : List α) : Option (List α) := if l.length * bytes ≤ 140737488355328 then some l else none
def z4h (t bytes : Nat) (args : List (V U)) (hp : List (Blk U)) : Option (FnOut U) := match args, hp with
  | [.one (.sl t' l _)], [] => if h : t' = t then some ⟨List (U t), cloneF bytes (h ▸ l), fun l => .leaf ([.one (.row 0 0)], [.row t 0 l])⟩ else none
  | _, _ => none
theorem z20q (ok : CdOk P cd) (L : SlLaysE0.n41 P ρ) {f t bytes : Nat} {fn : Func} (hf : P.funcs[f]? = some fn) (hname : (fn.name == "runtime.NumGoroutine") = false) (hb : fn.body.isSome = true) (hff : ρ.f 41 = f) (htt : ρ.t 23 = t) {i0 : TypeInfo} {z : Value}
    (hi : P.info? t = some i0) (hz0 : i0.zero = some z) (hz2 : i0.bytes = bytes) (hzs : z.cells.size = i0.size) (hsz : 0 < i0.size) (hby : 0 < bytes) (z23 : ∀ w, (Go.sizeOf t).run P w = .ok i0.size w) : FnOk P cd f (z4h t bytes) := by
  subst hff
  subst htt
  intro M Fz w hp args vargs hhr hargs r hs x hx p hp1
  unfold z4h at hs
  split at hs
  · rename_i t' l full
    split at hs
    · rename_i e
      subst e
      injection hs with hs
      subst hs
      have hx : cloneF bytes l = some x := hx
      unfold cloneF at hx
      split at hx
      · rename_i hbig
        injection hx with hx
        subst hx
        have hp1 : some ([.one (.row 0 0)], [.row (ρ.t 23) 0 l]) = some p := hp1
        injection hp1 with hp1
        subst hp1
        refine ⟨fn, hf, hname, hb, ?_⟩
        obtain ⟨u, rfl⟩ : ∃ u, vargs = [u] := by
          have := hargs.1
          match vargs, this with
          | [u], _ => exact ⟨u, rfl⟩
        have h0 : R1 P cd M Fz w (.sl (ρ.t 23) l full) u := hargs.2 0 _ u rfl rfl
        have hsz' : P.cellsOf (ρ.t 23) = i0.size := by simp [Program.cellsOf, hi]
        -- where no block is held before
        have hM : ∀ b, M b = none := fun b => hhr.out b (Nat.zero_le _)
        have post : ∀ (v' : Value) (w' : World) (pos : Option Nat) (cap : Nat), Below w.heap.size w w' → (∀ k, pos = some k → w.heap.size ≤ k ∧ k < w'.heap.size) → RowV pos l.length cap v' → v'.oneCell' = true → RowPos P cd (fun b => if b = 0 then some (.row pos (ρ.t 23) 0 l.length cap) else none) Fz w' mk0 (ρ.t 23) l cap pos →
            Post P cd M Fz w (resD [.one (.row 0 0)]) [.row (ρ.t 23) 0 l] v' w' := by
          intro v' w' pos cap hbel hpos hrv hone hrow
          refine ⟨fun b => if b = 0 then some (.row pos (ρ.t 23) 0 l.length cap) else none, Fz, ?_, ?_, ?_, ?_, ⟨hbel.os, hbel.tape, hbel.output, hbel.size, fun k hk _ => hbel.block k hk⟩, ?_, fun k hk => .inl hk⟩
          · exact R1.row 0 0 pos (ρ.t 23) 0 l.length cap v' (by simp) (Nat.le_refl _) hone fun _ => hrv
          · refine ⟨fun b y hy => ?_, fun b hb => ?_, fun b b' i i' k h1 h2 h3 h4 => ?_, fun b i k h1 h2 h3 => ?_, hhr.fz.mono (fun k hk => ⟨hk, hbel.block k (hhr.frz k hk)⟩) fun k hk => ?_, fun b i k h1 h2 => ?_⟩
            · cases b with
              | zero =>
                simp at hy
                subst hy
                exact ⟨pos, cap, by simp, hrow⟩
              | succ b => simp at hy
            · have : b ≠ 0 := by simp at hb; omega
              simp [this]
            · by_cases hb : b = 0
              · by_cases hb' : b' = 0
                · rw [hb, hb']
                · simp [hb'] at h2
              · simp [hb] at h1
            · by_cases hb : b = 0
              · subst hb
                simp at h1
                subst h1
                have := (hpos k h2).1
                have := hhr.frz k h3
                omega
              · simp [hb] at h1
            · have := hhr.frz k hk
              have := hbel.size
              omega
            · by_cases hb : b = 0
              · subst hb
                simp at h1
                subst h1
                exact (hpos k h2).2
              · simp [hb] at h1
          · intro b i hb
            rw [hM b] at hb
            cases hb
          · intro k hk
            exact ⟨hk, hbel.block k (hhr.frz k hk)⟩
          · rintro k ⟨b, i, h1, h2⟩
            by_cases hb : b = 0
            · subst hb
              simp at h1
              subst h1
              exact .inr (hpos k h2).1
            · simp [hb] at h1
        cases h0 with
        | sl _ _ _ a cap g hfull hle hne hcells =>
          cases a with
          | none =>
            have hl0 : l = [] := by
              cases l with
              | nil => rfl
              | cons y l => obtain ⟨k, o, h, _⟩ := hne (by simp); cases h
            subst hl0
            refine (AnyE.slices_Clone_nil L 0 cap w).mono fun e w' ⟨he, hw⟩ => ⟨_, he, ?_⟩
            rw [hw]
            exact post _ w none 0 (Below.refl _ w) (fun k hk => by cases hk) ⟨none, rfl⟩ rfl rfl
          | some ad =>
            have hcell : ∀ j c, (l.flatMap (cd.enc (ρ.t 23)))[j]? = some c → w.cell? (ad.add j) = some (g j) := by
              intro j c hj
              have hnel : l ≠ [] := by rintro rfl; simp at hj
              obtain ⟨k, o, h1, _, h3⟩ := hne hnel
              injection h1 with h1
              subst h1
              have : (at0 k o).add j = at0 k (o + j) := by unfold Addr.add at0; split <;> simp_all
              rw [this]
              exact h3 j c hj
            have hlen : (l.flatMap (cd.enc (ρ.t 23))).length = l.length * i0.size := by rw [z1p ok, hsz']
            have hml : l.length ≤ maxLen := by
              have : l.length ≤ l.length * bytes := Nat.le_mul_of_pos_right _ hby
              simp only [maxLen]; omega
            refine (z20p L i0 z i0.size bytes hi hz0 rfl hz2 hzs hsz z23 ad l.length cap ((List.range (l.length * i0.size)).map g) w (by simp) hml hbig (fun j u hj => ?_) (fun u hu => ?_)).mono fun e w' ⟨v', he, hown, hnn, hbel⟩ => ⟨v', he, ?_⟩
            · rw [List.getElem?_map] at hj
              obtain ⟨j', hj', rfl⟩ := Option.map_eq_some_iff.1 hj
              have hlt := (List.getElem?_eq_some_iff.1 hj').1
              have : j' = j := by have := (List.getElem?_eq_some_iff.1 hj').2; simpa using this.symm
              subst this
              have hlt : j' < l.length * i0.size := by simpa using hlt
              exact hcell j' _ (List.getElem?_eq_getElem (by rw [hlen]; exact hlt))
            · obtain ⟨j, hj, rfl⟩ := List.mem_map.1 hu
              have hj : j < l.length * i0.size := by simpa using hj
              have hcj := List.getElem?_eq_getElem (show j < (l.flatMap (cd.enc (ρ.t 23))).length by rw [hlen]; exact hj)
              refine (hcells j _ hcj).scal ?_
              have := z7j ok hcj
              revert this
              generalize (l.flatMap (cd.enc (ρ.t 23)))[j] = cc
              intro hp
              cases cc <;> first | rfl | (simp [plainC] at hp)
            · obtain ⟨_, hv⟩ := hown
              rcases hv with ⟨hv, _⟩ | ⟨k, cap', cur, rfl, hk, hheap, hn1, hn2, hsize, htake⟩
              · exact absurd hv hnn
              · have hklt : k < w'.heap.size := (Array.getElem?_eq_some_iff.1 hheap).1
                refine post _ w' (some k) cap' hbel (fun k' e => by injection e with e; subst e; exact ⟨hk, hklt⟩) rfl rfl ⟨cur, ⟨hheap, hn1, hn2, by rw [hsize, hsz'], fun j c hj => ?_⟩⟩
                have hjl := (List.getElem?_eq_some_iff.1 hj).1
                rw [hlen] at hjl
                refine ⟨g j, ?_, ((hcells j c hj).plain ok (fun _ h => h) (z7j ok hj)).mono (Ext.refl _) fun k' hk' => ⟨hk', hbel.block k' (hhr.frz k' hk')⟩⟩
                have : cur.toList[j]? = some (g j) := by
                  have h2 : (cur.toList.take (l.length * i0.size))[j]? = some (g j) := by
                    rw [htake, List.getElem?_map, List.getElem?_range hjl]
                    rfl
                  rw [List.getElem?_take, if_pos hjl] at h2
                  exact h2
                simpa using this
      · cases hx
    · cases hs
  · cases hs
def cloneB (P : Program) (t bytes : Nat) : Bool := match P.info? t with
  | some i => (match i.zero with
    | some z => decide (z.cells.size = i.size) && decide (0 < i.size) && decide (i.bytes = bytes) && decide (0 < bytes)
    | none => false)
  | none => false
theorem z182 (ok : CdOk P cd) (L : SlLaysE0.n41 P ρ) {f t bytes : Nat} {fn : Func} (hf : P.funcs[f]? = some fn) (hname : (fn.name == "runtime.NumGoroutine") = false) (hb : fn.body.isSome = true) (hff : ρ.f 41 = f) (htt : ρ.t 23 = t) (hc : cloneB P t bytes = true) : FnOk P cd f (z4h t bytes) := by
  unfold cloneB at hc
  split at hc
  · rename_i i hi
    split at hc
    · rename_i z hz
      simp only [Bool.and_eq_true, decide_eq_true_eq] at hc
      exact z20q ok L hf hname hb hff htt hi hz hc.1.2 hc.1.1.1 hc.1.1.2 hc.2 fun w => by simp [Go.sizeOf, typeInfo, hi]
    · cases hc
  · cases hc
end
end Go.Ab
end
section
set_option linter.unusedSimpArgs false
namespace Go.Ab
open Go.Shelf Go.RowKit Go.Lib Go.Proofs
variable {U : Nat → Type}
section
variable {P : Program} {cd : Cd U} {ρ : Ren}
def zhe (s : List UInt8) : Option (List UInt8) := if s.length ≤ 281474976710656 then some s else none
theorem z1wi (L : LaysPu.n25 P ρ) {f : Nat} {fn : Func} (hf : P.funcs[f]? = some fn) (hname : (fn.name == "runtime.NumGoroutine") = false) (hb : fn.body.isSome = true) (hff : ρ.f 25 = f) : FnOk P cd f (zf (aO cStr aNil : Arg U (List UInt8 × Unit)) bNil (fun x _ => zhe x.1) fun r => ([vO cStr r], [])) := by
  subst hff
  intro M Fz w hp args vargs hhr hargs r hs x hx p hp1
  unfold zf at hs
  split at hs
  · rename_i y g h1 h2
    injection hs with hs
    subst hs
    have hx : zhe y.1 = some x := hx
    unfold zhe at hx
    split at hx
    · rename_i hlen
      injection hx with hx
      have hp1 : some (([vO cStr x], []) : List (V U) × List (Blk U)) = some p := hp1
      injection hp1 with hp1
      subst hp1
      have ha := (ze z5a (zd (U := U))) _ _ h1
      have hbk := (z7 (U := U)) _ _ h2
      have hp0 : hp = [] := hbk
      subst hp0
      have ha : args = [.one (.str y.1)] := ha
      subst ha
      refine ⟨fn, hf, hname, hb, ?_⟩
      obtain ⟨u, rfl⟩ : ∃ u, vargs = [u] := by
        have := hargs.1
        match vargs, this with
        | [u], _ => exact ⟨u, rfl⟩
      have h0 : R1 P cd M Fz w (.str y.1) u := hargs.2 0 _ u rfl rfl
      cases h0
      have hM : ∀ b, M b = none := fun b => hhr.out b (Nat.zero_le _)
      refine (AnyPu.stringslite_Clone L ⟨y.1.toArray⟩ w (by simpa [ByteArray.size] using hlen)).mono fun e w' ⟨he, hbel⟩ => ⟨_, he, ?_⟩
      refine ⟨M, Fz, ?_, ?_, .refl _, fun k hk => ⟨hk, hbel.block k (hhr.frz k hk)⟩, ⟨hbel.os, hbel.tape, hbel.output, hbel.size, fun k hk _ => hbel.block k hk⟩, fun k hk => .inl hk, fun k hk => .inl hk⟩
      · subst hx
        exact R1.str y.1
      · refine ⟨fun b z hz => absurd hz (by simp), fun b _ => hM b, fun b b' i i' k h3 => absurd h3 (by rw [hM]; simp), fun b i k h3 => absurd h3 (by rw [hM]; simp), hhr.fz.mono (fun k hk => ⟨hk, hbel.block k (hhr.frz k hk)⟩) fun k hk => ?_, fun b i k h3 => absurd h3 (by rw [hM]; simp)⟩
        have := hhr.frz k hk
        have := hbel.size
        omega
    · cases hx
  · cases hs
end
end Go.Ab
end
