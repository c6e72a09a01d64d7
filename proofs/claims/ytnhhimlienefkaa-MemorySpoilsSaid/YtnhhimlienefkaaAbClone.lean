/- slices.Clone, told as a row of its own: from the library's contract at any address. -/
import Derived.Test.YtnhhimlienefkaaAbMore
import Derived.Shelf.Spec.SlicesInsert
import Derived.Shelf.Spec.SlicesInsertGrow
import Derived.Shelf.SlicesE.Clone
section
set_option linter.unusedSimpArgs false
namespace Go.Ab
variable {U : Nat → Type} {α β γ : Type}
/-- rows are taken for good: what stands in their places is empty -/
def taken (hp : List (Blk U)) : Blk U → Blk U
  | .cells cs => .cells (cs.map (frzC 0 hp))
  | .row t v _ => .row t (v + 1) []
  | .dead => .dead
def frzSpec (spec : List (V U) → List (Blk U) → Option (FnOut U)) (args : List (V U)) (hp : List (Blk U)) : Option (FnOut U) :=
  match spec (args.map fun y => renV (fun _ _ => none) (canV (frzV 0 hp y))) [] with
  | some r => some ⟨r.β, r.o, fun x => (r.out x).map fun p => (p.1.map (renV fun _ _ => none), hp.map (taken hp))⟩
  | none => none
section
variable {P : Program} {cd : Cd U} {M M' : Mp} {Fz Fz' : Nat → Prop} {w w' : World}
def takM (hp : List (Blk U)) (M : Mp) : Mp := fun b => match hp[b]? with
  | some (.row t v _) => some (.row none t (v + 1) 0 0)
  | _ => M b
theorem frzM_takM (hp : List (Blk U)) (M : Mp) : Ext (frzM 0 hp M) (takM hp M) := by
  intro b i h
  simp only [frzM, Nat.not_lt_zero, if_false] at h
  simp only [takM]
  split at h
  · cases h
  · rename_i hne
    refine ⟨i, ?_, .refl i⟩
    split
    · rename_i t v l e; exact absurd e (hne t v l)
    · exact h
theorem ext_takM {hp : List (Blk U)} (h : HR P cd M Fz hp w) : Ext M (takM hp M) := by
  intro b i hb
  simp only [takM]
  split
  · rename_i t v l e
    have := h.blk b _ e
    obtain ⟨pos, cap, e1, _⟩ := this
    rw [hb] at e1
    injection e1 with e1
    subst e1
    exact ⟨_, rfl, .later _ _ _ _ _ _ _ _ _ _ (Nat.lt_succ_self v)⟩
  · exact ⟨i, hb, .refl i⟩
theorem takM_le {hp : List (Blk U)} {b : Nat} {i : Inf} {k : Nat} (h : takM hp M b = some i) (hk : i.blk = some k) : frzM 0 hp M b = some i := by
  simp only [takM] at h
  simp only [frzM, Nat.not_lt_zero, if_false]
  split at h
  · injection h with h; subst h; cases hk
  · rename_i hne
    split
    · rename_i t v l e; exact absurd e (hne t v l)
    · exact h
theorem HR.taken (ok : CdOk P cd) {hp : List (Blk U)} (h : HR P cd M Fz hp w) : HR P cd (takM hp M) (fun k => Fz k ∨ RowAt 0 hp M k) (hp.map (taken hp)) w := by
  have hf := h.frzn ok 0
  have he : Ext (frzM 0 hp M) (takM hp M) := frzM_takM hp M
  refine ⟨fun b x hx => ?_, fun b hb => ?_, fun b b' i i' k h1 h2 h3 h4 => hf.inj b b' i i' k (takM_le h1 h3) (takM_le h2 h4) h3 h4, fun b i k h1 h2 => hf.apart b i k (takM_le h1 h2) h2, hf.frz, fun b i k h1 h2 => hf.lt b i k (takM_le h1 h2) h2⟩
  · rw [List.getElem?_map] at hx
    obtain ⟨y, hy, rfl⟩ := Option.map_eq_some_iff.1 hx
    have hb := h.blk b y hy
    cases y with
    | dead =>
      show takM hp M b = none
      simp only [takM, hy]
      exact hb
    | cells cs =>
      have hb2 := hf.blk b (.cells (cs.map (frzC 0 hp))) (by rw [frzHp_get, hy]; rfl)
      obtain ⟨k, arr, e, e1, e2, e3⟩ := hb2
      refine ⟨k, arr, e, ?_, e2, e3.mono he (Frz.refl _ _)⟩
      simp only [frzM, Nat.not_lt_zero, if_false, hy] at e1
      simp only [takM, hy]
      exact e1
    | row t v l =>
      refine ⟨none, 0, ?_, rfl⟩
      simp only [takM, hy]
      rfl
  · rw [List.length_map] at hb
    simp only [takM]
    rw [List.getElem?_eq_none hb]
    exact h.out b hb
theorem fnOk_frz (ok : CdOk P cd) {f : Nat} {spec : List (V U) → List (Blk U) → Option (FnOut U)} (hout : ∀ a h r, spec a h = some r → ∀ x p, (r.out x).run = some p → p.2 = []) (h : FnOk P cd f spec) : FnOk P cd f (frzSpec spec) := by
  intro M Fz w hp args vargs hhr hargs r hs x hx out hout2
  unfold frzSpec at hs
  split at hs
  · rename_i r0 hr0
    injection hs with hs
    subst hs
    have hx : r0.o = some x := hx
    rw [Tree.run_map] at hout2
    obtain ⟨p0, hp0, rfl⟩ := Option.map_eq_some_iff.1 hout2
    have h2 := hhr.taken ok
    have ha : RVs P cd (takM hp M) (fun k => Fz k ∨ RowAt 0 hp M k) w (args.map (frzV 0 hp)) vargs := by
      refine ⟨by simp [hargs.1], fun j y v hy hv => ?_⟩
      rw [List.getElem?_map] at hy
      obtain ⟨z, hz, rfl⟩ := Option.map_eq_some_iff.1 hy
      exact ((hargs.2 j z v hz hv).frz ok hhr 0).mono (frzM_takM hp M) (Frz.refl _ _)
    have hr : Renum (takM hp M) (small 0 (takM hp M) []) (fun _ _ => none) := Renum.none _ _
    have hargs2 := map_map3 (ha.can ok) ok hr
    rw [List.map_map] at hargs2
    obtain ⟨fn, h1, h3, h4, hc⟩ := h (small 0 (takM hp M) []) _ w [] _ vargs (small_hr ok h2 0 (order := []) List.nodup_nil) hargs2 r0 hr0 x hx p0 hp0
    refine ⟨fn, h1, h3, h4, hc.mono fun e w' ⟨v, he, hp1⟩ => ⟨v, he, ?_⟩⟩
    rw [hout _ _ _ hr0 x p0 hp0] at hp1
    obtain ⟨M', Fz', p1, p2, p3, p4, p5, p6, p7⟩ := call_core ok (order := []) (R := hp.map (Go.Ab.taken hp)) h2 List.nodup_nil (fun x hx => by simp at hx) hp1 (by simp [putBack, putBack.go]) (.inr rfl)
    have hheld : ∀ k, Held (takM hp M) k → Held M k := by
      rintro k ⟨b, i, e1, e2⟩
      exact ⟨b, i, frzM_le 0 hp M (takM_le e1 e2), e2⟩
    refine ⟨M', Fz', p1, p2, (ext_takM hhr).trans p3, fun k hk => p4 k (.inl hk), ⟨p5.os, p5.tape, p5.output, p5.size, fun k hk hn => p5.old k hk fun hk' => hn (hheld k hk')⟩, fun k hk => (p6 k hk).imp (hheld k) id, fun k hk => ?_⟩
    rcases p7 k hk with (h' | ⟨b, t, v, l, _, _, i, e1, e2⟩) | h' | h'
    · exact .inl h'
    · exact .inr (.inl ⟨b, i, e1, e2⟩)
    · exact .inr (.inl (hheld k h'))
    · exact .inr (.inr h')
  · cases hs
theorem mkSpec_out {A : Arg U α} {B : Bls U γ} {F : α → γ → Option β} {out : β → List (V U) × List (Blk U)} (h : ∀ x, (out x).2 = []) : ∀ a hp r, mkSpec A B F out a hp = some r → ∀ x p, (r.out x).run = some p → p.2 = [] := by
  intro a hp r hs x p hp
  unfold mkSpec at hs
  split at hs
  · injection hs with hs; subst hs; injection hp with hp; rw [← hp]; exact h x
  · cases hs
end
end Go.Ab
end
section
set_option linter.unusedSimpArgs false
namespace Go.Ab
variable {U : Nat → Type} {α β γ : Type}
/-- the temporaries of results -/
def resTs : List ResultVar → List Nat
  | [] => []
  | .tmp t :: l => t :: resTs l
  | .cell t _ :: l => t :: resTs l
/-- a whole function whose rows are handed out as they are -/
def execF2 (E : Env U) (f : Func) (args : List (V U)) (hp : List (Blk U)) : Tree (List (V U) × List (Blk U)) :=
  bif Nat.beq hp.length E.n0 && rows0 hp && Nat.beq f.ntmps E.nt && Nat.ble args.length f.ntmps && Nat.beq f.results.size f.resultTypes.size then match f.body with
  | some c => (exec E c 0 { tm := argsT 0 args, hp }).bind fun p => match p.1 with
    | .exit _ => .fail
    | _ =>
      let σ := nrm E.n0 (resTs f.results.toList) false p.2
      match resV E.P σ.hp.length σ (f.results.toList.zip f.resultTypes.toList) with
      | some vs => .leaf (vs, outB σ.hp.length (firstB σ.hp.length σ.hp))
      | none => .fail
  | none => .fail
  else .fail
section
variable {E : Env U}
theorem fn_ok2 (ok : CdOk E.P E.cd) (env : ∀ f p s, E.fns f = some (p, s) → FnOk E.P E.cd f s) {f : Nat} {fn : Func} (hf : E.P.funcs[f]? = some fn) (hname : (fn.name == "runtime.NumGoroutine") = false) (hl : ∀ c, fn.body = some c → LoopsOk E c 0)
    {spec : List (V U) → List (Blk U) → Option (FnOut U)} (hs : ∀ args hp r, spec args hp = some r → ∀ x, r.o = some x → ∀ p, (r.out x).run = some p → (execF2 E fn args hp).run = some p) : FnOk E.P E.cd f spec := by
  intro M Fz w hp args vargs hr ha r hsp x hx out hout
  have hrun := hs args hp r hsp x hx out hout
  unfold execF2 at hrun
  rw [cond_eq_ite] at hrun
  split at hrun
  case isFalse => cases hrun
  rename_i hc
  simp only [Bool.and_eq_true] at hc
  obtain ⟨⟨⟨⟨hc1, hc2⟩, hc3⟩, hc4⟩, hc5⟩ := hc
  have hn0 : hp.length = E.n0 := Nat.eq_of_beq_eq_true hc1
  have hnt : fn.ntmps = E.nt := Nat.eq_of_beq_eq_true hc3
  have hle : args.length ≤ fn.ntmps := Nat.le_of_ble_eq_true hc4
  have hrs : fn.results.size = fn.resultTypes.size := Nat.eq_of_beq_eq_true hc5
  split at hrun
  case h_2 => cases hrun
  rename_i c hbody
  rw [Tree.run_bind] at hrun
  obtain ⟨p, hp1, hp2⟩ := Option.bind_eq_some_iff.1 hrun
  have hI : Start E.n0 M := ⟨fun b hb => hr.out b (by omega), fun b q t v l c hb => by
    have hlt : b < hp.length := by
      rcases Nat.lt_or_ge b hp.length with h' | h'
      · exact h'
      · rw [hr.out b h'] at hb; cases hb
    have hx := List.getElem?_eq_getElem hlt
    have hbk := hr.blk b _ hx
    revert hx hbk
    generalize hp[b] = y
    intro hx hbk
    cases y with
    | dead => exact absurd (hb.symm.trans hbk) (by simp)
    | cells cs => obtain ⟨k, arr, e, e1, _⟩ := hbk; rw [hb] at e1; cases e1
    | row t' v' l' =>
      obtain ⟨pos', cap', e1, _⟩ := hbk
      rw [hb] at e1
      injection e1 with e1
      injection e1 with e1 e2 e3
      rw [e3]
      exact rows0_ok hc2 b t' v' l' hx⟩
  refine ⟨fn, hf, hname, by rw [hbody]; rfl, ?_⟩
  refine calls_of_wp hf hbody ?_
  have h0 : RSt E.P E.cd E.nt (Held M) Fz w M { tm := argsT 0 args, hp } { tmps := vargs.toArray ++ Array.replicate (fn.ntmps - vargs.toArray.size) undef, defers := [] } w := by
    refine ⟨M, Fz, ⟨hr, ?_, ?_, rfl, .refl _ _, fun k hk => .inl hk, fun k hk => hk, fun k hk => .inl hk, .refl _⟩⟩
    · intro t d ht
      obtain ⟨_, y, hy, rfl⟩ := argsT_get args 0 t d ht
      rw [Nat.sub_zero] at hy
      have hlt := (List.getElem?_eq_some_iff.1 hy).1
      have hlt2 : t < vargs.length := by rw [ha.1]; exact hlt
      refine ⟨vargs[t], ?_, ha.2 t y _ hy (List.getElem?_eq_getElem hlt2)⟩
      rw [Array.getElem?_append_left (by simpa using hlt2)]
      simp
    · simp [ha.1]
      omega
  refine exec_ok ok env hI c 0 (hl c hbody) _ p hp1 _ w h0 _ fun a' w' h' => ?_
  have h2 := nrm_ok ok hI (resTs fn.results.toList) false h'
  generalize nrm E.n0 (resTs fn.results.toList) false p.2 = σ at h2 hp2
  have fin : (match resV E.P σ.hp.length σ (fn.results.toList.zip fn.resultTypes.toList) with
      | some vs => Tree.leaf (vs, outB σ.hp.length (firstB σ.hp.length σ.hp))
      | none => .fail).run = some out → a'.defers = [] ∧ ∃ v, (results fn a'.tmps).run E.P w' = .ok v w' ∧ ∃ v_1, Ending.returned v = .returned v_1 ∧ Post E.P E.cd M Fz w (resD out.1) out.2 v_1 w' := by
    intro hfin
    obtain ⟨M', F', h3⟩ := h2
    refine ⟨h3.defers, ?_⟩
    split at hfin
    · rename_i vs hvs
      simp only [Tree.run, Option.some.injEq] at hfin
      rw [← hfin]
      obtain ⟨us, u1, u2⟩ := resV_ok ok h3.hr h3.tm σ.hp.length fn.results.toList fn.resultTypes.toList vs (by simpa using hrs) hvs
      have hpost : ∀ v, RD E.P E.cd (cutM σ.hp.length M') F' w' (resD vs) v → Post E.P E.cd M Fz w (resD vs) (outB σ.hp.length (firstB σ.hp.length σ.hp)) v w' := by
        intro v hv
        have le : ∀ b i, cutM σ.hp.length M' b = some i → M' b = some i := fun b i hb => by
          unfold cutM at hb
          split at hb
          · exact hb
          · cases hb
        refine ⟨cutM σ.hp.length M', F', hv, cut_hr ok h3.hr σ.hp.length, ?_, ?_, h3.keep, ?_, h3.f1⟩
        · intro b i hb
          obtain ⟨i', e1, e2⟩ := h3.ext b i hb
          have : b < σ.hp.length := by
            rcases Nat.lt_or_ge b σ.hp.length with h' | h'
            · exact h'
            · rw [h3.hr.out b h'] at e1; cases e1
          exact ⟨i', by simp [cutM, this, e1], e2⟩
        · intro k hk
          exact ⟨h3.f0 k hk, h3.keep.old k (hr.frz k hk) (fun ⟨b, i, e1, e2⟩ => hr.apart b i k e1 e2 hk)⟩
        · rintro k ⟨b, i, e1, e2⟩
          exact h3.own k ⟨b, i, le b i e1, e2⟩
      have hmap : ∀ (f : ResultVar → Sem Value) (l : Array ResultVar) (us : List Value), (l.toList.mapM f).run E.P w' = .ok us w' → (l.mapM f).run E.P w' = .ok us.toArray w' := by
        intro f l us hh
        rw [Array.mapM_eq_mapM_toList]
        show (do let __x ← l.toList.mapM f; pure __x.toArray : Sem (Array Value)).run E.P w' = _
        simp only [Sem.run_bind, hh, Result.andThen, Sem.run_pure]
      have hres := hmap _ _ _ u1
      refine ⟨if h : us.toArray.size = 1 then us.toArray[0] else .tuple us.toArray, ?_, _, rfl, ?_⟩
      · have hfun : results fn a'.tmps = (do let vs ← fn.results.mapM (resF a'.tmps); pure (if h : vs.size = 1 then vs[0] else .tuple vs)) := by
          unfold results
          congr 1
        rw [hfun]
        simp only [Sem.run_bind, hres, Result.andThen, Sem.run_pure]
      · refine hpost _ ?_
        have hul := u2.1
        match vs, us, u2, hul with
        | [y], [u], u2, _ => exact u2.2 0 y u rfl rfl
        | [], [], u2, _ => exact ⟨#[], rfl, u2⟩
        | y :: z :: vs, u :: u' :: us, u2, _ =>
          have : ¬ (u :: u' :: us).toArray.size = 1 := by simp
          rw [dif_neg this]
          exact ⟨_, rfl, by simpa using u2⟩
    · cases hfin
  obtain ⟨e, σ'⟩ := p
  cases e with
  | norm => exact fin hp2
  | exit id => cases hp2
  | ret => exact fin hp2
end
/-- either kind -/
def execX (fresh : Bool) (E : Env U) (f : Func) (args : List (V U)) (hp : List (Blk U)) : Tree (List (V U) × List (Blk U)) := bif fresh then execF2 E f args hp else execF E f args hp
def mkSpecG (A : Arg U α) (B : Bls U γ) (F : α → γ → Option β) (out : α → γ → β → List (V U) × List (Blk U)) (args : List (V U)) (hp : List (Blk U)) : Option (FnOut U) :=
  match A.dec args, B.dec hp with
  | some x, some g => some ⟨β, F x g, fun y => .leaf (out x g y)⟩
  | _, _ => none
def mkSpecG2 {β' : Type} (A : Arg U α) (B : Bls U γ) (F : α → γ → Option (β ⊕ β')) (out : α → γ → β → List (V U) × List (Blk U)) (out' : α → γ → β' → List (V U) × List (Blk U)) (args : List (V U)) (hp : List (Blk U)) : Option (FnOut U) :=
  match A.dec args, B.dec hp with
  | some x, some g => some ⟨β ⊕ β', F x g, fun y => .ite y.isLeft (.opt β y.getLeft? fun z => .leaf (out x g z)) (.opt β' y.getRight? fun z => .leaf (out' x g z))⟩
  | _, _ => none
section
variable {E : Env U}
theorem fn_okX (fresh : Bool) (ok : CdOk E.P E.cd) (env : ∀ f p s, E.fns f = some (p, s) → FnOk E.P E.cd f s) {f : Nat} {fn : Func} (hf : E.P.funcs[f]? = some fn) (hname : (fn.name == "runtime.NumGoroutine") = false) (hl : ∀ c, fn.body = some c → LoopsOk E c 0)
    {spec : List (V U) → List (Blk U) → Option (FnOut U)} (hs : ∀ args hp r, spec args hp = some r → ∀ x, r.o = some x → ∀ p, (r.out x).run = some p → (execX fresh E fn args hp).run = some p) : FnOk E.P E.cd f spec := by
  cases fresh with
  | true => exact fn_ok2 ok env hf hname hl hs
  | false => exact fn_ok ok env hf hname hl hs
theorem mk_okG (fresh : Bool) (ok : CdOk E.P E.cd) (env : ∀ f p s, E.fns f = some (p, s) → FnOk E.P E.cd f s) {f : Nat} {fn : Func} (hf : E.P.funcs[f]? = some fn) (hname : (fn.name == "runtime.NumGoroutine") = false) (hl : ∀ c, fn.body = some c → LoopsOk E c 0)
    {A : Arg U α} {B : Bls U γ} (hA : A.Ok) (hB : B.Ok) {T : α → γ → Tree β} {F : α → γ → Option β} {out : α → γ → β → List (V U) × List (Blk U)} (hF : ∀ x g, F x g = (T x g).run) (hrun : ∀ x g, execX fresh E fn (A.enc x) (B.enc g) = (T x g).map (out x g)) : FnOk E.P E.cd f (mkSpecG A B F out) := by
  refine fn_okX fresh ok env hf hname hl fun args hp r hs x hx p hp => ?_
  unfold mkSpecG at hs
  split at hs
  · rename_i y g h1 h2
    injection hs with hs
    subst hs
    rw [hA _ _ h1, hB _ _ h2, hrun, Tree.run_map]
    have hx : F y g = some x := hx
    have hp : some (out y g x) = some p := hp
    rw [← hF, hx, ← hp]
    rfl
  · cases hs
theorem mk_okG2 {β' : Type} (fresh : Bool) (ok : CdOk E.P E.cd) (env : ∀ f p s, E.fns f = some (p, s) → FnOk E.P E.cd f s) {f : Nat} {fn : Func} (hf : E.P.funcs[f]? = some fn) (hname : (fn.name == "runtime.NumGoroutine") = false) (hl : ∀ c, fn.body = some c → LoopsOk E c 0)
    {A : Arg U α} {B : Bls U γ} (hA : A.Ok) (hB : B.Ok) {T : α → γ → Tree (β ⊕ β')} {F : α → γ → Option (β ⊕ β')} {out : α → γ → β → List (V U) × List (Blk U)} {out' : α → γ → β' → List (V U) × List (Blk U)} (hF : ∀ x g, F x g = (T x g).run)
    (hrun : ∀ x g, execX fresh E fn (A.enc x) (B.enc g) = (T x g).map (Sum.elim (out x g) (out' x g))) : FnOk E.P E.cd f (mkSpecG2 A B F out out') := by
  refine fn_okX fresh ok env hf hname hl fun args hp r hs x hx p hp => ?_
  unfold mkSpecG2 at hs
  split at hs
  · rename_i y g h1 h2
    injection hs with hs
    subst hs
    rw [hA _ _ h1, hB _ _ h2, hrun, Tree.run_map]
    have hx : F y g = some x := hx
    rw [← hF, hx]
    cases x with
    | inl z => exact hp
    | inr z => exact hp
  · cases hs
end
/-- one contract or the other -/
def orSpec (s t : List (V U) → List (Blk U) → Option (FnOut U)) (args : List (V U)) (hp : List (Blk U)) : Option (FnOut U) := match s args hp with
  | some r => some r
  | none => t args hp
theorem orSpec_ok {P : Program} {cd : Cd U} {f : Nat} {s t : List (V U) → List (Blk U) → Option (FnOut U)} (hs : FnOk P cd f s) (ht : FnOk P cd f t) : FnOk P cd f (orSpec s t) := by
  intro M Fz w hp args vargs h1 h2 r hr
  unfold orSpec at hr
  split at hr
  · rename_i r' e
    injection hr with hr
    subst hr
    exact hs M Fz w hp args vargs h1 h2 r' e
  · exact ht M Fz w hp args vargs h1 h2 r hr
/-- a function value whose captured variables are handed as blocks -/
def sameL : List (C U) → List (C U) → Bool
  | [], [] => true
  | x :: l, y :: k => bif sameC x y then sameL l k else false
  | _, _ => false
theorem sameL_ok : ∀ {l k : List (C U)}, sameL l k = true → k = l
  | [], [], _ => rfl
  | x :: l, y :: k, h => by
    simp only [sameL, cond_eq_ite] at h
    split at h
    · rename_i hx
      rw [sameC_ok hx, sameL_ok h]
    · cases h
  | [], _ :: _, h => by cases h
  | _ :: _, [], h => by cases h
def sameC2 : C U → C U → Bool
  | .fn f [] a, .fn f' [] b => bif Nat.beq f f' then sameL a b else false
  | x, z => sameC x z
theorem sameC2_ok {x z : C U} (h : sameC2 x z = true) : z = x := by
  unfold sameC2 at h
  split at h
  · rw [cond_eq_ite] at h
    split at h
    · rename_i hf
      rw [Nat.eq_of_beq_eq_true hf, sameL_ok h]
    · cases h
  · exact sameC_ok h
def cK2 (x : C U) (c : Cdc U α) : Cdc U α := cLit x (sameC2 x) c
theorem cK2_ok {x : C U} {c : Cdc U α} (hc : c.Ok) : (cK2 x c).Ok := cLit_ok hc fun _ h => sameC2_ok h
def aF (f : Nat) (cs : List (C U)) (r : Arg U β) : Arg U β := ⟨fun x => .one (.fn f [] cs) :: r.enc x, fun
  | .one (.fn f' [] cs') :: l => bif Nat.beq f' f && sameL cs cs' then r.dec l else none
  | _ => none⟩
theorem aF_ok {f : Nat} {cs : List (C U)} {r : Arg U β} (hr : r.Ok) : (aF f cs r).Ok := by
  intro vs x h
  simp only [aF, cond_eq_ite] at h
  split at h
  · split at h
    · rename_i hb
      simp only [Bool.and_eq_true] at hb
      rw [hr _ _ h, Nat.eq_of_beq_eq_true hb.1, sameL_ok hb.2]
      rfl
    · cases h
  · cases h
end Go.Ab
end
section
set_option linter.unusedSimpArgs false
set_option linter.unusedVariables false
namespace Go.Ab
open Go.Shelf Go.RowKit Go.Lib Go.Proofs
variable {U : Nat → Type}
section
variable {P : Program} {cd : Cd U} {ρ : Ren} {M M' : Mp} {Fz Fz' : Nat → Prop} {w w' : World}
theorem setCells_row (P : Program) {w : World} {b o : Nat} {cur : Array Value} {t : TypeId} {vs : List Value} (hb : w.heap[b]? = some (.cells cur t (0, 0))) (hl : o + vs.length ≤ cur.size) (h1 : ∀ v ∈ vs, v.oneCell' = true) :
    w.setCells b o vs = w.setRow b (cur.toList.take o ++ vs ++ cur.toList.drop (o + vs.length)).toArray := by
  have e1 := run_storeCells_cells (P := P) b o vs 0 w (fun j hj => by rw [Lib.cell_of_heap hb, Array.getElem?_eq_getElem (show o + 0 + j < cur.size by omega)]; rfl) (fun j _ => Lib.frozen_of_heap hb _) h1
  have e2 := run_storeCells_at P b o t vs 0 cur w hb (by omega) h1
  rw [e1] at e2
  simpa using e2
/-- what an insertion comes to -/
def insF {α : Type} (i : Int) (l m : List α) : Option (List α) := if 0 ≤ i ∧ i ≤ (l.length : Int) ∧ 0 < m.length ∧ (l.length + m.length) * 8 ≤ 140737488355328 then some (l.take i.toNat ++ m ++ l.drop i.toNat) else none
def insSpec (t : Nat) (args : List (V U)) (hp : List (Blk U)) : Option (FnOut U) := match args, hp with
  | [.one (.row 0 0), .one (.int .i64 i), .one (.row 1 0)], [.row t1 0 l, .row t2 0 m] => if h : t1 = t ∧ t2 = t then some ⟨List (U t), insF i (h.1 ▸ l) (h.2 ▸ m), fun r => .leaf ([.one (.row 0 1)], [.row t 1 r, .row t 0 (h.2 ▸ m)])⟩ else none
  | _, _ => none
/-- cells of a row, and of another that is laid into it -/
theorem ins_rel (ok : CdOk P cd) {t : Nat} (h1 : P.cellsOf t = 1) {l m : List (U t)} {cs vs rest : List Value} {i : Nat} (hi : i ≤ l.length) (hcl : cs.length = l.length) (hvl : vs.length = m.length)
    (hc : ∀ (j : Nat) c, (l.flatMap (cd.enc t))[j]? = some c → ∃ v, cs[j]? = some v ∧ R1 P cd M Fz w c v) (hv : ∀ (j : Nat) c, (m.flatMap (cd.enc t))[j]? = some c → ∃ v, vs[j]? = some v ∧ R1 P cd M Fz w c v) :
    ∀ (j : Nat) c, ((l.take i ++ m ++ l.drop i).flatMap (cd.enc t))[j]? = some c → ∃ v, (cs.take i ++ vs ++ cs.drop i ++ rest)[j]? = some v ∧ R1 P cd M Fz w c v := by
  intro j c hj
  have e1 : (l.flatMap (cd.enc t)).length = l.length := by rw [flat_len ok, h1, Nat.mul_one]
  have e2 : (m.flatMap (cd.enc t)).length = m.length := by rw [flat_len ok, h1, Nat.mul_one]
  rw [List.flatMap_append, List.flatMap_append, flat_take ok, flat_drop ok, h1, Nat.mul_one] at hj
  have ht : ((l.flatMap (cd.enc t)).take i).length = i := by rw [List.length_take]; omega
  have ht' : (cs.take i).length = i := by rw [List.length_take]; omega
  rcases Nat.lt_or_ge j i with h | h
  · rw [List.append_assoc, List.getElem?_append_left (by omega), List.getElem?_take, if_pos h] at hj
    obtain ⟨v, k1, k2⟩ := hc j c hj
    exact ⟨v, by rw [List.append_assoc, List.append_assoc, List.getElem?_append_left (by omega), List.getElem?_take, if_pos h]; exact k1, k2⟩
  · rcases Nat.lt_or_ge j (i + m.length) with h' | h'
    · rw [List.append_assoc, List.getElem?_append_right (by omega), ht, List.getElem?_append_left (by omega)] at hj
      obtain ⟨v, k1, k2⟩ := hv _ c hj
      exact ⟨v, by rw [List.append_assoc, List.append_assoc, List.getElem?_append_right (by omega), ht', List.getElem?_append_left (by omega)]; exact k1, k2⟩
    · rw [List.getElem?_append_right (by rw [List.length_append]; omega), List.length_append, ht, e2, List.getElem?_drop] at hj
      obtain ⟨v, k1, k2⟩ := hc _ c hj
      have hlt := (List.getElem?_eq_some_iff.1 hj).1
      rw [e1] at hlt
      refine ⟨v, ?_, k2⟩
      rw [List.getElem?_append_left (by rw [List.length_append, List.length_append, List.length_drop]; omega), List.getElem?_append_right (by rw [List.length_append]; omega), List.length_append, ht', hvl, List.getElem?_drop]
      exact k1
theorem ins_rows {hp : List (Blk U)} {t : Nat} {l m : List (U t)} (h : HR P cd M Fz [.row t 0 l, .row t 0 m] w) : ∃ p q c d, M 0 = some (.row p t 0 l.length c) ∧ RowPos P cd M Fz w t l c p ∧ M 1 = some (.row q t 0 m.length d) ∧ RowPos P cd M Fz w t m d q := by
  obtain ⟨p, c, h1, h2⟩ := h.blk 0 _ rfl
  obtain ⟨q, d, h3, h4⟩ := h.blk 1 _ rfl
  exact ⟨p, q, c, d, h1, h2, h3, h4⟩
set_option maxHeartbeats 1000000 in
theorem insert_ok (ok : CdOk P cd) (L : Lays2.n21 P ρ) {f t : Nat} {fn : Func} (hf : P.funcs[f]? = some fn) (hname : (fn.name == "runtime.NumGoroutine") = false) (hb : fn.body.isSome = true) (hff : ρ.f 21 = f) (htt : ρ.t 3 = t) (h1 : P.cellsOf t = 1) : FnOk P cd f (insSpec t) := by
  subst hff
  subst htt
  intro M Fz w hp args vargs hhr hargs r hs x hx p hp1
  unfold insSpec at hs
  split at hs
  case h_2 => cases hs
  rename_i i t1 l t2 m
  split at hs
  case isFalse => cases hs
  rename_i e
  obtain ⟨e1, e2⟩ := id e
  subst e1
  subst e2
  injection hs with hs
  subst hs
  have hx : insF i l m = some x := hx
  unfold insF at hx
  split at hx
  case isFalse => cases hx
  rename_i hcond
  obtain ⟨hi0, hil, hm0, hbig⟩ := hcond
  injection hx with hx
  subst hx
  have hp1 : some ([.one (.row 0 1)], [.row (ρ.t 3) 1 (l.take i.toNat ++ m ++ l.drop i.toNat), .row (ρ.t 3) 0 m]) = some p := hp1
  injection hp1 with hp1
  subst hp1
  refine ⟨fn, hf, hname, hb, ?_⟩
  obtain ⟨u0, u1, u2, rfl⟩ : ∃ u0 u1 u2, vargs = [u0, u1, u2] := by
    have := hargs.1
    match vargs, this with
    | [a, b, c], _ => exact ⟨a, b, c, rfl⟩
  have r0 : R1 P cd M Fz w (.row 0 0) u0 := hargs.2 0 _ u0 rfl rfl
  have r1 : R1 P cd M Fz w (.int .i64 i) u1 := hargs.2 1 _ u1 rfl rfl
  have r2 : R1 P cd M Fz w (.row 1 0) u2 := hargs.2 2 _ u2 rfl rfl
  cases r1
  obtain ⟨pos, pos1, cap, cap1, hM0, hR0, hM1, hR1⟩ := ins_rows (hp := []) hhr
  cases r0 with
  | row _ _ pos' t' ver' len' cap' _ hm' hle' hone' hval' =>
  rw [hM0] at hm'
  injection hm' with hm'
  injection hm' with q1 q2 q3 q4 q5
  subst q1; subst q2; subst q3; subst q4; subst q5
  have hval0 := hval' rfl
  cases r2 with
  | row _ _ pos' t' ver' len' cap' _ hm' hle' hone'' hval' =>
  rw [hM1] at hm'
  injection hm' with hm'
  injection hm' with q1 q2 q3 q4 q5
  subst q1; subst q2; subst q3; subst q4; subst q5
  have hval1 := hval' rfl
  obtain ⟨n, rfl⟩ : ∃ n : Nat, i = (n : Int) := ⟨i.toNat, by omega⟩
  have hn : n ≤ l.length := by omega
  rw [Int.toNat_natCast]
  cases pos1 with
  | none =>
    have : m = [] := hR1
    rw [this] at hm0
    simp at hm0
  | some k1 =>
  obtain ⟨cur1, ro1⟩ := hR1
  simp only [RowV] at hval1
  subst hval1
  -- the cells that are laid in
  have hs1 : m.length ≤ cur1.size := by rw [ro1.size, h1, Nat.mul_one]; exact ro1.le
  generalize hvs : cur1.toList.take m.length = vs
  have hct1 : cur1.toList.length = cur1.size := Array.length_toList
  have hvl : vs.length = m.length := by rw [← hvs, List.length_take]; omega
  have hvr : ∀ (j : Nat) c, (m.flatMap (cd.enc (ρ.t 3)))[j]? = some c → ∃ v, vs[j]? = some v ∧ R1 P cd M Fz w c v := by
    intro j c hj
    obtain ⟨v, k1, k2⟩ := ro1.cells j c hj
    have hjl := (List.getElem?_eq_some_iff.1 hj).1
    rw [flat_len ok, h1, Nat.mul_one] at hjl
    exact ⟨v, by rw [← hvs, List.getElem?_take, if_pos hjl]; simpa using k1, k2⟩
  have hvone : ∀ v ∈ vs, v.oneCell' = true := by
    intro v hv
    obtain ⟨j, hj⟩ := List.mem_iff_getElem?.1 hv
    have hjl := (List.getElem?_eq_some_iff.1 hj).1
    have hlen : j < (m.flatMap (cd.enc (ρ.t 3))).length := by rw [flat_len ok, h1, Nat.mul_one]; omega
    obtain ⟨v', e1, e2⟩ := hvr j _ (List.getElem?_eq_getElem hlen)
    rw [hj] at e1
    injection e1 with e1
    subst e1
    exact flat_scal ok (List.getElem?_eq_getElem hlen) e2
  have hvc : ∀ (j : Nat) v, vs[j]? = some v → w.cell? ⟨k1, 0 + j, none⟩ = some v := by
    intro j v hj
    rw [Lib.cell_of_heap ro1.heap, Nat.zero_add]
    rw [← hvs, List.getElem?_take] at hj
    split at hj
    · simpa using hj
    · cases hj
  have hk1 : k1 < w.heap.size := hhr.lt 1 _ k1 hM1 rfl
  -- the ends of the five ways
  have fin : ∀ (g cap' : Nat) (arr : Array Value) (w' : World) (cs rest : List Value), cs.length = l.length → (∀ (j : Nat) c, (l.flatMap (cd.enc (ρ.t 3)))[j]? = some c → ∃ v, cs[j]? = some v ∧ R1 P cd M Fz w c v) →
      w'.heap[g]? = some (.cells arr (ρ.t 3) (0, 0)) → arr.toList = cs.take n ++ vs ++ cs.drop n ++ rest → arr.size = cap' → l.length + m.length ≤ cap' → cap' ≤ maxLen →
      ∀ (M' : Mp), M' 0 = some (.row (some g) (ρ.t 3) 1 (l.length + m.length) cap') → Ext M M' → Frz Fz w Fz w' → RB P cd M' Fz w' 0 (.row (ρ.t 3) 1 (l.take n ++ m ++ l.drop n)) := by
    intro g cap' arr w' cs rest hcl hcr hheap harr hsz hcap hmax M' hM' he hfr
    have hlen : (l.take n ++ m ++ l.drop n).length = l.length + m.length := by
      rw [List.length_append, List.length_append, List.length_take, List.length_drop]; omega
    refine ⟨some g, cap', by rw [hlen]; exact hM', arr, ⟨hheap, by rw [hlen]; exact hcap, hmax, by rw [h1, Nat.mul_one]; exact hsz, fun j c hj => ?_⟩⟩
    obtain ⟨v, k1, k2⟩ := ins_rel ok h1 hn hcl hvl hcr hvr (rest := rest) j c hj
    rw [← harr] at k1
    exact ⟨v, by simpa using k1, k2.mono he hfr⟩
  have moved : ∀ (cap' : Nat) (arr : Array Value) (w' : World) (cs rest : List Value), cs.length = l.length → (∀ (j : Nat) c, (l.flatMap (cd.enc (ρ.t 3)))[j]? = some c → ∃ v, cs[j]? = some v ∧ R1 P cd M Fz w c v) →
      w'.heap[w.heap.size]? = some (.cells arr (ρ.t 3) (0, 0)) → arr.toList = cs.take n ++ vs ++ cs.drop n ++ rest → arr.size = cap' → l.length + m.length ≤ cap' → cap' ≤ maxLen → w.heap.size ≤ w'.heap.size → (∀ k, k < w.heap.size → w'.heap[k]? = w.heap[k]?) → w'.os = w.os → w'.tape = w.tape → w'.output = w.output →
      Post P cd M Fz w (resD [.one (.row 0 1)]) [.row (ρ.t 3) 1 (l.take n ++ m ++ l.drop n), .row (ρ.t 3) 0 m] (.slice (some (at0 w.heap.size 0)) (l.length + m.length) cap') w' := by
    intro cap' arr w' cs rest hcl hcr hheap harr hsz hcap hmax hge hold hos htape hout
    refine hhr.moved (b := 0) (i' := .row (some w.heap.size) (ρ.t 3) 1 (l.length + m.length) cap') (by simp) (fun j hj => ?_) hge hold (fun k hk => ?_) hos htape hout (fun he hfr => ?_) (fun he hfr => ?_)
    · rw [hM0] at hj
      injection hj with hj
      subst hj
      exact .later _ _ _ _ _ _ _ _ _ _ (by omega)
    · simp only [Inf.blk, Option.some.injEq] at hk
      subst hk
      exact ⟨(Array.getElem?_eq_some_iff.1 hheap).1, Nat.le_refl _⟩
    · exact fin _ cap' arr w' cs rest hcl hcr hheap harr hsz hcap hmax _ (upd_same ..) he hfr
    · exact R1.row 0 1 _ _ _ _ _ _ (upd_same ..) (Nat.le_refl _) rfl fun _ => rfl
  have hnm : l.length + m.length ≤ maxLen := by simp only [maxLen]; omega
  cases pos with
  | none =>
    have hl : l = [] := hR0
    obtain ⟨a, rfl⟩ := hval0
    subst hl
    have hn0 : n = 0 := by simpa using hn
    subst hn0
    refine (Any2.slices_Insert_int_end_grow L a 0 0 k1 0 m.length cap1 [] vs w hm0 (Nat.le_refl _) (by omega) (by simpa using hbig) rfl hvl (fun _ => rfl) (fun a _ j v hj => by simp at hj) hvc hvone).mono fun e w' ⟨he, hw⟩ => ⟨_, he, ?_⟩
    have hge := grownCap_ge w (0 + m.length) 0 (ρ.t 3)
    have hcm := grownCap_le_maxLen w (0 + m.length) 0 (ρ.t 3) (by simpa using hnm)
    refine moved _ _ w' [] (Builtin.zeroCells (Value.int .i64 0).cells (grownCap w (0 + m.length) 0 (ρ.t 3) - (0 + m.length))).toList rfl (fun j c hj => by simp at hj) (by rw [hw]; exact heap_alloc_new w.drew _) (by simp) ?_ (by simpa using hge) hcm (by rw [hw]; simp) (fun k hk => by rw [hw]; exact drew_alloc_old w _ hk) (by rw [hw]; rfl) (by rw [hw]; rfl) (by rw [hw]; rfl)
    rw [Array.size_append, size_zeroCells]
    simp [hvl]
    have : (Value.int .i64 0).cells.size = 1 := rfl
    simp [this] at *
    omega
  | some k =>
  obtain ⟨cur, ro⟩ := hR0
  simp only [RowV] at hval0
  subst hval0
  have hs0 : cur.size = cap := by rw [ro.size, h1, Nat.mul_one]
  have hle0 : l.length ≤ cap := ro.le
  generalize hcs : cur.toList.take l.length = cs
  have hct0 : cur.toList.length = cur.size := Array.length_toList
  have hcl : cs.length = l.length := by rw [← hcs, List.length_take]; omega
  have hcr : ∀ (j : Nat) c, (l.flatMap (cd.enc (ρ.t 3)))[j]? = some c → ∃ v, cs[j]? = some v ∧ R1 P cd M Fz w c v := by
    intro j c hj
    obtain ⟨v, k1, k2⟩ := ro.cells j c hj
    have hjl := (List.getElem?_eq_some_iff.1 hj).1
    rw [flat_len ok, h1, Nat.mul_one] at hjl
    exact ⟨v, by rw [← hcs, List.getElem?_take, if_pos hjl]; simpa using k1, k2⟩
  have hcone : ∀ v ∈ cs, v.oneCell' = true := by
    intro v hv
    obtain ⟨j, hj⟩ := List.mem_iff_getElem?.1 hv
    have hjl := (List.getElem?_eq_some_iff.1 hj).1
    have hlen : j < (l.flatMap (cd.enc (ρ.t 3))).length := by rw [flat_len ok, h1, Nat.mul_one]; omega
    obtain ⟨v', e1, e2⟩ := hcr j _ (List.getElem?_eq_getElem hlen)
    rw [hj] at e1
    injection e1 with e1
    subst e1
    exact flat_scal ok (List.getElem?_eq_getElem hlen) e2
  have hcc : ∀ (j : Nat) v, cs[j]? = some v → w.cell? ⟨k, 0 + j, none⟩ = some v := by
    intro j v hj
    rw [Lib.cell_of_heap ro.heap, Nat.zero_add]
    rw [← hcs, List.getElem?_take] at hj
    split at hj
    · simpa using hj
    · cases hj
  have hkk : k1 ≠ k := fun e => by
    have := hhr.inj 1 0 _ _ k hM1 hM0 (by rw [← e]; rfl) rfl
    omega
  have hk : k < w.heap.size := hhr.lt 0 _ k hM0 rfl
  have inplace : ∀ (arr : Array Value) (w' : World) (rest : List Value), w' = w.setRow k arr ∨ w' = w.drew.setRow k arr → arr.toList = cs.take n ++ vs ++ cs.drop n ++ rest → arr.size = cap → l.length + m.length ≤ cap →
      Post P cd M Fz w (resD [.one (.row 0 1)]) [.row (ρ.t 3) 1 (l.take n ++ m ++ l.drop n), .row (ρ.t 3) 0 m] (.slice (some (at0 k 0)) (l.length + m.length) cap) w' := by
    intro arr w' rest hw harr hsz hcap
    have hheap : w'.heap[k]? = some (.cells arr (ρ.t 3) (0, 0)) := by
      rcases hw with rfl | rfl
      · exact setRow_heap w k cur _ _ _ ro.heap
      · exact setRow_heap w.drew k cur _ _ _ ro.heap
    have hother : ∀ k', k' ≠ k → w'.heap[k']? = w.heap[k']? := by
      intro k' hk'
      rcases hw with rfl | rfl
      · exact setRow_other w k k' _ hk'
      · exact setRow_other w.drew k k' _ hk'
    have hsize : w'.heap.size = w.heap.size := by
      rcases hw with rfl | rfl <;> exact Array.size_modify
    refine hhr.inPlace (b := 0) (i := .row (some k) (ρ.t 3) 0 l.length cap) (i' := .row (some k) (ρ.t 3) 1 (l.length + m.length) cap) hM0 rfl rfl (.later _ _ _ _ _ _ _ _ _ _ (by omega)) hsize hother ?_ ?_ ?_ (fun he hfr => ?_) (fun he hfr => ?_)
    · rcases hw with rfl | rfl <;> rfl
    · rcases hw with rfl | rfl <;> rfl
    · rcases hw with rfl | rfl <;> rfl
    · exact fin k cap arr w' cs rest hcl hcr hheap harr hsz hcap ro.max _ (upd_same ..) he hfr
    · exact R1.row 0 1 _ _ _ _ _ _ (upd_same ..) (Nat.le_refl _) rfl fun _ => rfl
  have hcur : cur.toList.length = cap := by rw [Array.length_toList, hs0]
  have hzc : (Value.int .i64 0).cells.size = 1 := rfl
  have hmx : cap ≤ 9223372036854775807 := ro.max
  have hhp0 : w.drew.heap[k]? = some (.cells cur (ρ.t 3) (0, 0)) := ro.heap
  by_cases hlt : n < l.length
  · by_cases hroom : l.length + m.length ≤ cap
    · have hdl : (cs.drop n).length = l.length - n := by rw [List.length_drop, hcl]
      refine (Any2.slices_Insert_int_shift L k 0 l.length cap n k1 0 m.length cap1 cs vs w hlt hm0 hroom hmx hkk hcl hvl hcc (fun j hj => by rw [Lib.cell_of_heap ro.heap, Nat.zero_add, Array.getElem?_eq_getElem (show j < cur.size by omega)]; rfl) (fun j _ => Lib.frozen_of_heap ro.heap _) hvc hcone hvone (ρ.t 3) (ρ.t 3) cur1.size cur.size (by unfold World.shape?; rw [ro1.heap]) (by unfold World.shape?; rw [ro.heap]) (by omega) (Lib.frozen_of_heap ro1.heap _) (Lib.frozen_of_heap ro1.heap _)).mono fun e w' ⟨he, hw⟩ => ⟨_, he, ?_⟩
      rw [setCells_row P hhp0 (by rw [hdl]; omega) (fun v hv => hcone v (List.mem_of_mem_drop hv))] at hw
      generalize hA1 : (cur.toList.take (0 + (n + m.length)) ++ cs.drop n ++ cur.toList.drop (0 + (n + m.length) + (cs.drop n).length)).toArray = A1 at hw
      have hh1 : (w.drew.setRow k A1).heap[k]? = some (.cells A1 (ρ.t 3) (0, 0)) := setRow_heap w.drew k cur _ _ _ hhp0
      have hA1s : A1.size = cap := by
        rw [← hA1]
        simp only [List.size_toArray, List.length_append, List.length_take, List.length_drop]
        omega
      rw [setCells_row P hh1 (by omega) hvone, setRow_setRow] at hw
      refine inplace _ w' (cur.toList.drop (l.length + m.length)) (.inr hw) ?_ ?_ hroom
      · have e1 : A1.toList = cur.toList.take (n + m.length) ++ (cs.drop n ++ cur.toList.drop (l.length + m.length)) := by
          rw [← hA1, hdl, Nat.zero_add, show n + m.length + (l.length - n) = l.length + m.length by omega]
          simp
        have e2 : A1.toList.take n = cs.take n := by
          rw [e1, List.take_append_of_le_length (by rw [List.length_take, hcur]; omega), List.take_take, ← hcs, List.take_take]
          congr 1; omega
        have e3 : A1.toList.drop (n + m.length) = cs.drop n ++ cur.toList.drop (l.length + m.length) := by
          have ht : (cur.toList.take (n + m.length)).length = n + m.length := by rw [List.length_take, hcur]; omega
          rw [e1, List.drop_append_of_le_length (by omega), List.drop_of_length_le (by omega)]; rfl
        rw [Nat.zero_add, hvl, e2, e3]
        simp
      · have q0 : A1.toList.length = A1.size := Array.length_toList
        simp only [List.size_toArray, List.length_append, List.length_take, List.length_drop]
        omega
    · have hroom' : cap < l.length + m.length := by omega
      refine (Any2.slices_Insert_int_grow L k 0 l.length cap n k1 0 m.length cap1 cs vs w hlt hm0 hle0 hroom' hbig hcl hvl hcc hvc hcone hvone).mono fun e w' ⟨he, hw⟩ => ⟨_, he, ?_⟩
      have hge := grownCap_ge w (l.length + m.length) cap (ρ.t 3)
      have hcm := grownCap_le_maxLen w (l.length + m.length) cap (ρ.t 3) hnm
      generalize hG : grownCap w (l.length + m.length) cap (ρ.t 3) = G at *
      generalize hA0 : (cs.take n).toArray ++ Builtin.zeroCells (Value.int .i64 0).cells (l.length + m.length - n) ++ Builtin.zeroCells (Value.int .i64 0).cells (G - (l.length + m.length)) = A0 at hw
      have htk : (cs.take n).length = n := by rw [List.length_take, hcl]; omega
      have hA0s : A0.size = G := by
        rw [← hA0, Array.size_append, Array.size_append, size_zeroCells, size_zeroCells, hzc, List.size_toArray, htk]; omega
      have hA0l : A0.toList = cs.take n ++ A0.toList.drop n := by
        have : A0.toList.take n = cs.take n := by
          rw [← hA0, Array.toList_append, Array.toList_append, List.append_assoc, List.take_append_of_le_length (by simp [htk]), List.take_of_length_le (by simp [htk])]
        rw [← this, List.take_append_drop]
      have hh0 : ((w.alloc (.cells A0 (ρ.t 3))).drew).heap[w.heap.size]? = some (.cells A0 (ρ.t 3) (0, 0)) := heap_alloc_new w _
      rw [setCells_row P hh0 (by omega) hvone] at hw
      generalize hA1 : (A0.toList.take n ++ vs ++ A0.toList.drop (n + vs.length)).toArray = A1 at hw
      have hA1s : A1.size = G := by
        rw [← hA1]
        have q0 : A0.toList.length = A0.size := Array.length_toList
        simp only [List.size_toArray, List.length_append, List.length_take, List.length_drop]
        omega
      have hh1 : (((w.alloc (.cells A0 (ρ.t 3))).drew.setRow w.heap.size A1).drew).heap[w.heap.size]? = some (.cells A1 (ρ.t 3) (0, 0)) := setRow_heap _ _ _ _ _ _ hh0
      have hdl : (cs.drop n).length = l.length - n := by rw [List.length_drop, hcl]
      rw [setCells_row P hh1 (by rw [hdl]; omega) (fun v hv => hcone v (List.mem_of_mem_drop hv))] at hw
      have hold : ∀ k', k' < w.heap.size → w'.heap[k']? = w.heap[k']? := by
        intro k' hk'
        rw [hw]
        rw [setRow_other _ _ _ _ (by omega)]
        show ((w.alloc (.cells A0 (ρ.t 3))).drew.setRow w.heap.size A1).heap[k']? = _
        rw [setRow_other _ _ _ _ (by omega)]
        exact heap_alloc_old w _ hk'
      refine moved G _ w' cs (A1.toList.drop (l.length + m.length)) hcl hcr (by rw [hw]; exact setRow_heap _ _ _ _ _ _ hh1) ?_ ?_ hge hcm ?_ hold (by rw [hw]; rfl) (by rw [hw]; rfl) (by rw [hw]; rfl)
      · have e1 : A1.toList.take (n + m.length) = cs.take n ++ vs := by
          rw [← hA1]
          show (A0.toList.take n ++ vs ++ A0.toList.drop (n + vs.length)).take (n + m.length) = _
          have : A0.toList.take n = cs.take n := by rw [hA0l, List.take_append_of_le_length (by omega), List.take_of_length_le (by omega)]
          rw [this, List.take_append_of_le_length (by rw [List.length_append]; omega), List.take_of_length_le (by rw [List.length_append]; omega)]
        rw [hdl, e1, show n + m.length + (l.length - n) = l.length + m.length by omega]
      · have q0 : A1.toList.length = A1.size := Array.length_toList
        simp only [List.size_toArray, List.length_append, List.length_take, List.length_drop]
        omega
      · have sz : ∀ (x : World) b c, (x.setRow b c).heap.size = x.heap.size := fun x b c => Array.size_modify
        rw [hw, sz]
        show w.heap.size ≤ ((w.alloc (.cells A0 (ρ.t 3))).drew.setRow w.heap.size A1).heap.size
        rw [sz]
        show w.heap.size ≤ (w.alloc (.cells A0 (ρ.t 3))).heap.size
        simp
  · have hnl : n = l.length := by omega
    subst hnl
    by_cases hroom : l.length + m.length ≤ cap
    · refine (Any2.slices_Insert_int_end_room L k 0 l.length cap k1 0 m.length cap1 vs w hm0 hroom hmx hvl (fun j hj => by rw [Lib.cell_of_heap ro.heap, Array.getElem?_eq_getElem (show 0 + l.length + j < cur.size by omega)]; rfl) (fun j _ => Lib.frozen_of_heap ro.heap _) hvc hvone).mono fun e w' ⟨he, hw⟩ => ⟨_, he, ?_⟩
      rw [setCells_row P ro.heap (by omega) hvone] at hw
      refine inplace _ w' (cur.toList.drop (l.length + m.length)) (.inl hw) ?_ ?_ hroom
      · have e1 : cs.take l.length = cs := List.take_of_length_le (by omega)
        have e2 : cs.drop l.length = [] := List.drop_of_length_le (by omega)
        rw [Nat.zero_add, hvl, hcs, e1, e2]
        simp
      · simp only [List.size_toArray, List.length_append, List.length_take, List.length_drop]
        omega
    · have hroom' : cap < l.length + m.length := by omega
      refine (Any2.slices_Insert_int_end_grow L (some (at0 k 0)) l.length cap k1 0 m.length cap1 cs vs w hm0 hle0 hroom' hbig hcl hvl (fun h => by cases h) (fun a ha j v hj => by
        injection ha with ha
        subst ha
        have := hcc j v hj
        rw [Nat.zero_add] at this
        have e : (at0 k 0).add j = ⟨k, j, none⟩ := by unfold Addr.add at0; split <;> simp_all
        rw [e]; exact this) hvc hvone).mono fun e w' ⟨he, hw⟩ => ⟨_, he, ?_⟩
      have hge := grownCap_ge w (l.length + m.length) cap (ρ.t 3)
      have hcm := grownCap_le_maxLen w (l.length + m.length) cap (ρ.t 3) hnm
      refine moved _ _ w' cs (Builtin.zeroCells (Value.int .i64 0).cells (grownCap w (l.length + m.length) cap (ρ.t 3) - (l.length + m.length))).toList hcl hcr (by rw [hw]; exact heap_alloc_new w.drew _) ?_ ?_ hge hcm (by rw [hw]; simp) (fun k' hk' => by rw [hw]; exact drew_alloc_old w _ hk') (by rw [hw]; rfl) (by rw [hw]; rfl) (by rw [hw]; rfl)
      · have e1 : cs.take l.length = cs := List.take_of_length_le (by omega)
        have e2 : cs.drop l.length = [] := List.drop_of_length_le (by omega)
        rw [e1, e2]
        simp
      · rw [Array.size_append, size_zeroCells, hzc, List.size_toArray, List.length_append]; omega
end
end Go.Ab
end
section
set_option linter.unusedSimpArgs false
namespace Go.Ab
open Go.Shelf Go.RowKit Go.Lib Go.Proofs
variable {U : Nat → Type}
section
variable {P : Program} {cd : Cd U} {ρ : Ren}
set_option maxHeartbeats 2000000 in
set_option maxRecDepth 100000 in
theorem clone_at (L : SlLaysE0.n41 P ρ) (i0 : TypeInfo) (z : Value) (size bytes : Nat) (hi : P.info? (ρ.t 23) = some i0) (hz0 : i0.zero = some z) (hz1 : i0.size = size) (hz2 : i0.bytes = bytes) (hzs : z.cells.size = size) (hsz : 0 < size)
    (z23 : ∀ w, (Go.sizeOf (ρ.t 23)).run P w = .ok size w) (ad : Addr) (n c : Nat) (news : List Value) (w : World) (hl : news.length = n * size) (hn : n ≤ maxLen) (hbig : n * bytes ≤ 140737488355328)
    (hc : ∀ j u, news[j]? = some u → w.cell? (ad.add j) = some u) (h1 : ∀ u ∈ news, u.oneCell' = true) :
    Calls P (ρ.f 41) #[.slice (some ad) n c] w fun e w' => ∃ v', e = .returned v' ∧ w'.ownsRow w.heap.size (ρ.t 23) size v' n news ∧ v' ≠ .slice none 0 0 ∧ Below w.heap.size w w' := by
  have mixed := L.mixed; have t4 := L.t4; have a4 := L.a4; have z4 := L.z4; have v4 := L.v4; have t22 := L.t22; have a22 := L.a22; have z22 := L.z22; have v22 := L.v22
  have q22 : ∀ (w : World) (a : Option Addr) (n c n' c' : Nat), (binOp .eql (ρ.t 22) (.slice a n c) (.slice none n' c')).run P w = .ok (.bool a.isNone) w := fun w a n c n' c' => Lib.run_eql_slice_nil w _ _ a n c n' c' L.t22
  have u22 : ∀ w, Sem.run P (underlying (ρ.t 22)) w = .ok (TypeDesc.slice (ρ.t 23)) w := run_underlying t22
  have A : Aside (∀ j u, news[j]? = some u → w.cell? (ad.add j) = some u) := hc
  clear hc
  obtain ⟨_, _, FG⟩ := L.f41
  go_enter FG, SlBodyN.n41_ntmps ρ
  go_wp2_with (at_builtin; refine wpList_append_own _ rfl _ _ (ρ.t 22) rfl w.heap.size (ρ.t 23) i0 z size bytes t22 hi hz0 hz1 hz2 hzs hsz _ _ _ rfl (World.ownsRow_made w #[] 0 (Nat.le_refl _) (Nat.zero_le _) (by simp)) ad n c news rfl ?qc1 ?qc2 ?qc3 ?qc4 ?qc5 ?qc6 ?_)
  case qc1 => exact hl
  case qc2 =>
    intro j u hj
    exact Lib.cell?_alloc_some _ (A.out j u hj)
  case qc3 => exact h1
  case qc4 => rw [Nat.zero_add]; exact hn
  case qc5 => rw [Nat.zero_add]; exact hbig
  case qc6 => simp
  intro v' w1 hown hgrow hnil
  go_wp2
  go_ret
  refine ⟨v', rfl, by simpa using hown, ?_, ?_⟩
  · exact hnil
  · exact ((Below.refl _ w).alloc (Nat.le_refl _) _).grown hgrow (by simp) (by intro k hk; simp [Value.ownBlock] at hk; omega)
/-- what a clone comes to -/
def cloneF {α : Type} (bytes : Nat) (l : List α) : Option (List α) := if l.length * bytes ≤ 140737488355328 then some l else none
def cloneSpec (t bytes : Nat) (args : List (V U)) (hp : List (Blk U)) : Option (FnOut U) := match args, hp with
  | [.one (.sl t' l _)], [] => if h : t' = t then some ⟨List (U t), cloneF bytes (h ▸ l), fun l => .leaf ([.one (.row 0 0)], [.row t 0 l])⟩ else none
  | _, _ => none
theorem clone_ok (ok : CdOk P cd) (L : SlLaysE0.n41 P ρ) {f t bytes : Nat} {fn : Func} (hf : P.funcs[f]? = some fn) (hname : (fn.name == "runtime.NumGoroutine") = false) (hb : fn.body.isSome = true) (hff : ρ.f 41 = f) (htt : ρ.t 23 = t) {i0 : TypeInfo} {z : Value}
    (hi : P.info? t = some i0) (hz0 : i0.zero = some z) (hz2 : i0.bytes = bytes) (hzs : z.cells.size = i0.size) (hsz : 0 < i0.size) (hby : 0 < bytes) (z23 : ∀ w, (Go.sizeOf t).run P w = .ok i0.size w) : FnOk P cd f (cloneSpec t bytes) := by
  subst hff
  subst htt
  intro M Fz w hp args vargs hhr hargs r hs x hx p hp1
  unfold cloneSpec at hs
  split at hs
  · rename_i t' l full
    split at hs
    · rename_i e
      subst e
      injection hs with hs
      subst hs
      have hx : cloneF bytes l = some x := hx
      unfold cloneF at hx
      split at hx
      · rename_i hbig
        injection hx with hx
        subst hx
        have hp1 : some ([.one (.row 0 0)], [.row (ρ.t 23) 0 l]) = some p := hp1
        injection hp1 with hp1
        subst hp1
        refine ⟨fn, hf, hname, hb, ?_⟩
        obtain ⟨u, rfl⟩ : ∃ u, vargs = [u] := by
          have := hargs.1
          match vargs, this with
          | [u], _ => exact ⟨u, rfl⟩
        have h0 : R1 P cd M Fz w (.sl (ρ.t 23) l full) u := hargs.2 0 _ u rfl rfl
        have hsz' : P.cellsOf (ρ.t 23) = i0.size := by simp [Program.cellsOf, hi]
        -- where no block is held before
        have hM : ∀ b, M b = none := fun b => hhr.out b (Nat.zero_le _)
        have post : ∀ (v' : Value) (w' : World) (pos : Option Nat) (cap : Nat), Below w.heap.size w w' → (∀ k, pos = some k → w.heap.size ≤ k ∧ k < w'.heap.size) → RowV pos l.length cap v' → v'.oneCell' = true → RowPos P cd (fun b => if b = 0 then some (.row pos (ρ.t 23) 0 l.length cap) else none) Fz w' (ρ.t 23) l cap pos →
            Post P cd M Fz w (resD [.one (.row 0 0)]) [.row (ρ.t 23) 0 l] v' w' := by
          intro v' w' pos cap hbel hpos hrv hone hrow
          refine ⟨fun b => if b = 0 then some (.row pos (ρ.t 23) 0 l.length cap) else none, Fz, ?_, ?_, ?_, ?_, ⟨hbel.os, hbel.tape, hbel.output, hbel.size, fun k hk _ => hbel.block k hk⟩, ?_, fun k hk => .inl hk⟩
          · exact R1.row 0 0 pos (ρ.t 23) 0 l.length cap v' (by simp) (Nat.le_refl _) hone fun _ => hrv
          · refine ⟨fun b y hy => ?_, fun b hb => ?_, fun b b' i i' k h1 h2 h3 h4 => ?_, fun b i k h1 h2 h3 => ?_, fun k hk => ?_, fun b i k h1 h2 => ?_⟩
            · cases b with
              | zero =>
                simp at hy
                subst hy
                exact ⟨pos, cap, by simp, hrow⟩
              | succ b => simp at hy
            · have : b ≠ 0 := by simp at hb; omega
              simp [this]
            · by_cases hb : b = 0
              · by_cases hb' : b' = 0
                · rw [hb, hb']
                · simp [hb'] at h2
              · simp [hb] at h1
            · by_cases hb : b = 0
              · subst hb
                simp at h1
                subst h1
                have := (hpos k h2).1
                have := hhr.frz k h3
                omega
              · simp [hb] at h1
            · have := hhr.frz k hk
              have := hbel.size
              omega
            · by_cases hb : b = 0
              · subst hb
                simp at h1
                subst h1
                exact (hpos k h2).2
              · simp [hb] at h1
          · intro b i hb
            rw [hM b] at hb
            cases hb
          · intro k hk
            exact ⟨hk, hbel.block k (hhr.frz k hk)⟩
          · rintro k ⟨b, i, h1, h2⟩
            by_cases hb : b = 0
            · subst hb
              simp at h1
              subst h1
              exact .inr (hpos k h2).1
            · simp [hb] at h1
        cases h0 with
        | sl _ _ _ a cap g hfull hle hne hcells =>
          cases a with
          | none =>
            have hl0 : l = [] := by
              cases l with
              | nil => rfl
              | cons y l => obtain ⟨k, o, h, _⟩ := hne (by simp); cases h
            subst hl0
            refine (AnyE.slices_Clone_nil L 0 cap w).mono fun e w' ⟨he, hw⟩ => ⟨_, he, ?_⟩
            rw [hw]
            exact post _ w none 0 (Below.refl _ w) (fun k hk => by cases hk) ⟨none, rfl⟩ rfl rfl
          | some ad =>
            have hcell : ∀ j c, (l.flatMap (cd.enc (ρ.t 23)))[j]? = some c → w.cell? (ad.add j) = some (g j) := by
              intro j c hj
              have hnel : l ≠ [] := by rintro rfl; simp at hj
              obtain ⟨k, o, h1, _, h3⟩ := hne hnel
              injection h1 with h1
              subst h1
              have : (at0 k o).add j = at0 k (o + j) := by unfold Addr.add at0; split <;> simp_all
              rw [this]
              exact h3 j c hj
            have hlen : (l.flatMap (cd.enc (ρ.t 23))).length = l.length * i0.size := by rw [flat_len ok, hsz']
            have hml : l.length ≤ maxLen := by
              have : l.length ≤ l.length * bytes := Nat.le_mul_of_pos_right _ hby
              simp only [maxLen]; omega
            refine (clone_at L i0 z i0.size bytes hi hz0 rfl hz2 hzs hsz z23 ad l.length cap ((List.range (l.length * i0.size)).map g) w (by simp) hml hbig (fun j u hj => ?_) (fun u hu => ?_)).mono fun e w' ⟨v', he, hown, hnn, hbel⟩ => ⟨v', he, ?_⟩
            · rw [List.getElem?_map] at hj
              obtain ⟨j', hj', rfl⟩ := Option.map_eq_some_iff.1 hj
              have hlt := (List.getElem?_eq_some_iff.1 hj').1
              have : j' = j := by have := (List.getElem?_eq_some_iff.1 hj').2; simpa using this.symm
              subst this
              have hlt : j' < l.length * i0.size := by simpa using hlt
              exact hcell j' _ (List.getElem?_eq_getElem (by rw [hlen]; exact hlt))
            · obtain ⟨j, hj, rfl⟩ := List.mem_map.1 hu
              have hj : j < l.length * i0.size := by simpa using hj
              have hcj := List.getElem?_eq_getElem (show j < (l.flatMap (cd.enc (ρ.t 23))).length by rw [hlen]; exact hj)
              refine (hcells j _ hcj).scal ?_
              have := plain_flat ok hcj
              revert this
              generalize (l.flatMap (cd.enc (ρ.t 23)))[j] = cc
              intro hp
              cases cc <;> first | rfl | (simp [plainC] at hp)
            · obtain ⟨_, hv⟩ := hown
              rcases hv with ⟨hv, _⟩ | ⟨k, cap', cur, rfl, hk, hheap, hn1, hn2, hsize, htake⟩
              · exact absurd hv hnn
              · have hklt : k < w'.heap.size := (Array.getElem?_eq_some_iff.1 hheap).1
                refine post _ w' (some k) cap' hbel (fun k' e => by injection e with e; subst e; exact ⟨hk, hklt⟩) rfl rfl ⟨cur, ⟨hheap, hn1, hn2, by rw [hsize, hsz'], fun j c hj => ?_⟩⟩
                have hjl := (List.getElem?_eq_some_iff.1 hj).1
                rw [hlen] at hjl
                refine ⟨g j, ?_, ((hcells j c hj).plain ok (fun _ h => h) (plain_flat ok hj)).mono (Ext.refl _) fun k' hk' => ⟨hk', hbel.block k' (hhr.frz k' hk')⟩⟩
                have : cur.toList[j]? = some (g j) := by
                  have h2 : (cur.toList.take (l.length * i0.size))[j]? = some (g j) := by
                    rw [htake, List.getElem?_map, List.getElem?_range hjl]
                    rfl
                  rw [List.getElem?_take, if_pos hjl] at h2
                  exact h2
                simpa using this
      · cases hx
    · cases hs
  · cases hs
def cloneB (P : Program) (t bytes : Nat) : Bool := match P.info? t with
  | some i => (match i.zero with
    | some z => decide (z.cells.size = i.size) && decide (0 < i.size) && decide (i.bytes = bytes) && decide (0 < bytes)
    | none => false)
  | none => false
theorem clone_ok2 (ok : CdOk P cd) (L : SlLaysE0.n41 P ρ) {f t bytes : Nat} {fn : Func} (hf : P.funcs[f]? = some fn) (hname : (fn.name == "runtime.NumGoroutine") = false) (hb : fn.body.isSome = true) (hff : ρ.f 41 = f) (htt : ρ.t 23 = t) (hc : cloneB P t bytes = true) : FnOk P cd f (cloneSpec t bytes) := by
  unfold cloneB at hc
  split at hc
  · rename_i i hi
    split at hc
    · rename_i z hz
      simp only [Bool.and_eq_true, decide_eq_true_eq] at hc
      exact clone_ok ok L hf hname hb hff htt hi hz hc.1.2 hc.1.1.1 hc.1.1.2 hc.2 fun w => by simp [Go.sizeOf, typeInfo, hi]
    · cases hc
  · cases hc
end
end Go.Ab
end
