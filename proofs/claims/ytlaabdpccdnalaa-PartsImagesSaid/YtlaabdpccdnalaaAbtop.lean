/- The types of the program, and how they are told in cells. -/
import Derived.Test.YtlaabdpccdnalaaAbMore
import Derived.Shelf.Pu.Clone
import Derived.Shelf.Small.Strs
import Derived.Shelf.Strings.Repeat
import Derived.Shelf.SlicesE.Clone
import Derived.Ground.NamesProg
import Derived.Shelf.Lay
import Derived.Shelf.SlGeneric
import Derived.Ground.SlgnProg
import Derived.Test.YtlaabdpccdnalaaProg
import Derived.KernelRfl
section
set_option linter.unusedSimpArgs false
namespace Go.Ab
variable {U : Nat → Type} {α β γ : Type}
/-- rows are taken for good: what stands in their places is empty -/
def taken (hp : List (Blk U)) : Blk U → Blk U
  | .cells cs => .cells (cs.map (frzC 0 hp))
  | .row t v _ => .row t (v + 1) []
  | .dead => .dead
def frzSpec (spec : List (V U) → List (Blk U) → Option (FnOut U)) (args : List (V U)) (hp : List (Blk U)) : Option (FnOut U) :=
  match spec (args.map fun y => renV (fun _ _ => none) (canV (frzV 0 hp y))) [] with
  | some r => some ⟨r.β, r.o, fun x => (r.out x).map fun p => (p.1.map (renV fun _ _ => none), hp.map (taken hp))⟩
  | none => none
section
variable {P : Program} {cd : Cd U} {M M' : Mp} {Fz Fz' : Nat → Prop} {w w' : World}
def takM (hp : List (Blk U)) (M : Mp) : Mp := fun b => match hp[b]? with
  | some (.row t v _) => some (.row none t (v + 1) 0 0)
  | _ => M b
theorem frzM_takM (hp : List (Blk U)) (M : Mp) : Ext (frzM 0 hp M) (takM hp M) := by
  intro b i h
  simp only [frzM, Nat.not_lt_zero, if_false] at h
  simp only [takM]
  split at h
  · cases h
  · rename_i hne
    refine ⟨i, ?_, .refl i⟩
    split
    · rename_i t v l e; exact absurd e (hne t v l)
    · exact h
theorem ext_takM {hp : List (Blk U)} (h : HR P cd M Fz hp w) : Ext M (takM hp M) := by
  intro b i hb
  simp only [takM]
  split
  · rename_i t v l e
    have := h.blk b _ e
    obtain ⟨pos, cap, e1, _⟩ := this
    rw [hb] at e1
    injection e1 with e1
    subst e1
    exact ⟨_, rfl, .later _ _ _ _ _ _ _ _ _ _ (Nat.lt_succ_self v)⟩
  · exact ⟨i, hb, .refl i⟩
theorem takM_le {hp : List (Blk U)} {b : Nat} {i : Inf} {k : Nat} (h : takM hp M b = some i) (hk : i.blk = some k) : frzM 0 hp M b = some i := by
  simp only [takM] at h
  simp only [frzM, Nat.not_lt_zero, if_false]
  split at h
  · injection h with h; subst h; cases hk
  · rename_i hne
    split
    · rename_i t v l e; exact absurd e (hne t v l)
    · exact h
theorem HR.taken (ok : CdOk P cd) {hp : List (Blk U)} (h : HR P cd M Fz hp w) : HR P cd (takM hp M) (fun k => Fz k ∨ RowAt 0 hp M k) (hp.map (taken hp)) w := by
  have hf := h.frzn ok 0
  have he : Ext (frzM 0 hp M) (takM hp M) := frzM_takM hp M
  refine ⟨fun b x hx => ?_, fun b hb => ?_, fun b b' i i' k h1 h2 h3 h4 => hf.inj b b' i i' k (takM_le h1 h3) (takM_le h2 h4) h3 h4, fun b i k h1 h2 => hf.apart b i k (takM_le h1 h2) h2, hf.frz, fun b i k h1 h2 => hf.lt b i k (takM_le h1 h2) h2⟩
  · rw [List.getElem?_map] at hx
    obtain ⟨y, hy, rfl⟩ := Option.map_eq_some_iff.1 hx
    have hb := h.blk b y hy
    cases y with
    | dead =>
      show takM hp M b = none
      simp only [takM, hy]
      exact hb
    | cells cs =>
      have hb2 := hf.blk b (.cells (cs.map (frzC 0 hp))) (by rw [frzHp_get, hy]; rfl)
      obtain ⟨k, arr, e, e1, e2, e3⟩ := hb2
      refine ⟨k, arr, e, ?_, e2, e3.mono he (Frz.refl _ _)⟩
      simp only [frzM, Nat.not_lt_zero, if_false, hy] at e1
      simp only [takM, hy]
      exact e1
    | row t v l =>
      refine ⟨none, 0, ?_, rfl⟩
      simp only [takM, hy]
      rfl
  · rw [List.length_map] at hb
    simp only [takM]
    rw [List.getElem?_eq_none hb]
    exact h.out b hb
theorem fnOk_frz (ok : CdOk P cd) {f : Nat} {spec : List (V U) → List (Blk U) → Option (FnOut U)} (hout : ∀ a h r, spec a h = some r → ∀ x p, (r.out x).run = some p → p.2 = []) (h : FnOk P cd f spec) : FnOk P cd f (frzSpec spec) := by
  intro M Fz w hp args vargs hhr hargs r hs x hx out hout2
  unfold frzSpec at hs
  split at hs
  · rename_i r0 hr0
    injection hs with hs
    subst hs
    have hx : r0.o = some x := hx
    rw [Tree.run_map] at hout2
    obtain ⟨p0, hp0, rfl⟩ := Option.map_eq_some_iff.1 hout2
    have h2 := hhr.taken ok
    have ha : RVs P cd (takM hp M) (fun k => Fz k ∨ RowAt 0 hp M k) w (args.map (frzV 0 hp)) vargs := by
      refine ⟨by simp [hargs.1], fun j y v hy hv => ?_⟩
      rw [List.getElem?_map] at hy
      obtain ⟨z, hz, rfl⟩ := Option.map_eq_some_iff.1 hy
      exact ((hargs.2 j z v hz hv).frz ok hhr 0).mono (frzM_takM hp M) (Frz.refl _ _)
    have hr : Renum (takM hp M) (small 0 (takM hp M) []) (fun _ _ => none) := Renum.none _ _
    have hargs2 := map_map3 (ha.can ok) ok hr
    rw [List.map_map] at hargs2
    obtain ⟨fn, h1, h3, h4, hc⟩ := h (small 0 (takM hp M) []) _ w [] _ vargs (small_hr ok h2 0 (order := []) List.nodup_nil) hargs2 r0 hr0 x hx p0 hp0
    refine ⟨fn, h1, h3, h4, hc.mono fun e w' ⟨v, he, hp1⟩ => ⟨v, he, ?_⟩⟩
    rw [hout _ _ _ hr0 x p0 hp0] at hp1
    obtain ⟨M', Fz', p1, p2, p3, p4, p5, p6, p7⟩ := call_core ok (order := []) (R := hp.map (Go.Ab.taken hp)) h2 List.nodup_nil (fun x hx => by simp at hx) hp1 (by simp [putBack, putBack.go]) (.inr rfl)
    have hheld : ∀ k, Held (takM hp M) k → Held M k := by
      rintro k ⟨b, i, e1, e2⟩
      exact ⟨b, i, frzM_le 0 hp M (takM_le e1 e2), e2⟩
    refine ⟨M', Fz', p1, p2, (ext_takM hhr).trans p3, fun k hk => p4 k (.inl hk), ⟨p5.os, p5.tape, p5.output, p5.size, fun k hk hn => p5.old k hk fun hk' => hn (hheld k hk')⟩, fun k hk => (p6 k hk).imp (hheld k) id, fun k hk => ?_⟩
    rcases p7 k hk with (h' | ⟨b, t, v, l, _, _, i, e1, e2⟩) | h' | h'
    · exact .inl h'
    · exact .inr (.inl ⟨b, i, e1, e2⟩)
    · exact .inr (.inl (hheld k h'))
    · exact .inr (.inr h')
  · cases hs
theorem mkSpec_out {A : Arg U α} {B : Bls U γ} {F : α → γ → Option β} {out : β → List (V U) × List (Blk U)} (h : ∀ x, (out x).2 = []) : ∀ a hp r, mkSpec A B F out a hp = some r → ∀ x p, (r.out x).run = some p → p.2 = [] := by
  intro a hp r hs x p hp
  unfold mkSpec at hs
  split at hs
  · injection hs with hs; subst hs; injection hp with hp; rw [← hp]; exact h x
  · cases hs
end
end Go.Ab
end
section
set_option linter.unusedSimpArgs false
namespace Go.Ab
variable {U : Nat → Type} {α β γ : Type}
/-- the temporaries of results -/
def resTs : List ResultVar → List Nat
  | [] => []
  | .tmp t :: l => t :: resTs l
  | .cell t _ :: l => t :: resTs l
/-- a whole function whose rows are handed out as they are -/
def execF2 (E : Env U) (f : Func) (args : List (V U)) (hp : List (Blk U)) : Tree (List (V U) × List (Blk U)) :=
  bif Nat.beq hp.length E.n0 && rows0 hp && Nat.beq f.ntmps E.nt && Nat.ble args.length f.ntmps && Nat.beq f.results.size f.resultTypes.size then match f.body with
  | some c => (exec E c 0 { tm := argsT 0 args, hp }).bind fun p => match p.1 with
    | .exit _ => .fail
    | _ =>
      let σ := nrm E.n0 (resTs f.results.toList) false p.2
      match resV E.P σ.hp.length σ (f.results.toList.zip f.resultTypes.toList) with
      | some vs => .leaf (vs, outB σ.hp.length (firstB σ.hp.length σ.hp))
      | none => .fail
  | none => .fail
  else .fail
section
variable {E : Env U}
theorem fn_ok2 (ok : CdOk E.P E.cd) (env : ∀ f p s, E.fns f = some (p, s) → FnOk E.P E.cd f s) {f : Nat} {fn : Func} (hf : E.P.funcs[f]? = some fn) (hname : (fn.name == "runtime.NumGoroutine") = false) (hl : ∀ c, fn.body = some c → LoopsOk E c 0)
    {spec : List (V U) → List (Blk U) → Option (FnOut U)} (hs : ∀ args hp r, spec args hp = some r → ∀ x, r.o = some x → ∀ p, (r.out x).run = some p → (execF2 E fn args hp).run = some p) : FnOk E.P E.cd f spec := by
  intro M Fz w hp args vargs hr ha r hsp x hx out hout
  have hrun := hs args hp r hsp x hx out hout
  unfold execF2 at hrun
  rw [cond_eq_ite] at hrun
  split at hrun
  case isFalse => cases hrun
  rename_i hc
  simp only [Bool.and_eq_true] at hc
  obtain ⟨⟨⟨⟨hc1, hc2⟩, hc3⟩, hc4⟩, hc5⟩ := hc
  have hn0 : hp.length = E.n0 := Nat.eq_of_beq_eq_true hc1
  have hnt : fn.ntmps = E.nt := Nat.eq_of_beq_eq_true hc3
  have hle : args.length ≤ fn.ntmps := Nat.le_of_ble_eq_true hc4
  have hrs : fn.results.size = fn.resultTypes.size := Nat.eq_of_beq_eq_true hc5
  split at hrun
  case h_2 => cases hrun
  rename_i c hbody
  rw [Tree.run_bind] at hrun
  obtain ⟨p, hp1, hp2⟩ := Option.bind_eq_some_iff.1 hrun
  have hI : Start E.n0 M := ⟨fun b hb => hr.out b (by omega), fun b q t v l c hb => by
    have hlt : b < hp.length := by
      rcases Nat.lt_or_ge b hp.length with h' | h'
      · exact h'
      · rw [hr.out b h'] at hb; cases hb
    have hx := List.getElem?_eq_getElem hlt
    have hbk := hr.blk b _ hx
    revert hx hbk
    generalize hp[b] = y
    intro hx hbk
    cases y with
    | dead => exact absurd (hb.symm.trans hbk) (by simp)
    | cells cs => obtain ⟨k, arr, e, e1, _⟩ := hbk; rw [hb] at e1; cases e1
    | row t' v' l' =>
      obtain ⟨pos', cap', e1, _⟩ := hbk
      rw [hb] at e1
      injection e1 with e1
      injection e1 with e1 e2 e3
      rw [e3]
      exact rows0_ok hc2 b t' v' l' hx⟩
  refine ⟨fn, hf, hname, by rw [hbody]; rfl, ?_⟩
  refine calls_of_wp hf hbody ?_
  have h0 : RSt E.P E.cd E.nt (Held M) Fz w M { tm := argsT 0 args, hp } { tmps := vargs.toArray ++ Array.replicate (fn.ntmps - vargs.toArray.size) undef, defers := [] } w := by
    refine ⟨M, Fz, ⟨hr, ?_, ?_, rfl, .refl _ _, fun k hk => .inl hk, fun k hk => hk, fun k hk => .inl hk, .refl _⟩⟩
    · intro t d ht
      obtain ⟨_, y, hy, rfl⟩ := argsT_get args 0 t d ht
      rw [Nat.sub_zero] at hy
      have hlt := (List.getElem?_eq_some_iff.1 hy).1
      have hlt2 : t < vargs.length := by rw [ha.1]; exact hlt
      refine ⟨vargs[t], ?_, ha.2 t y _ hy (List.getElem?_eq_getElem hlt2)⟩
      rw [Array.getElem?_append_left (by simpa using hlt2)]
      simp
    · simp [ha.1]
      omega
  refine exec_ok ok env hI c 0 (hl c hbody) _ p hp1 _ w h0 _ fun a' w' h' => ?_
  have h2 := nrm_ok ok hI (resTs fn.results.toList) false h'
  generalize nrm E.n0 (resTs fn.results.toList) false p.2 = σ at h2 hp2
  have fin : (match resV E.P σ.hp.length σ (fn.results.toList.zip fn.resultTypes.toList) with
      | some vs => Tree.leaf (vs, outB σ.hp.length (firstB σ.hp.length σ.hp))
      | none => .fail).run = some out → a'.defers = [] ∧ ∃ v, (results fn a'.tmps).run E.P w' = .ok v w' ∧ ∃ v_1, Ending.returned v = .returned v_1 ∧ Post E.P E.cd M Fz w (resD out.1) out.2 v_1 w' := by
    intro hfin
    obtain ⟨M', F', h3⟩ := h2
    refine ⟨h3.defers, ?_⟩
    split at hfin
    · rename_i vs hvs
      simp only [Tree.run, Option.some.injEq] at hfin
      rw [← hfin]
      obtain ⟨us, u1, u2⟩ := resV_ok ok h3.hr h3.tm σ.hp.length fn.results.toList fn.resultTypes.toList vs (by simpa using hrs) hvs
      have hpost : ∀ v, RD E.P E.cd (cutM σ.hp.length M') F' w' (resD vs) v → Post E.P E.cd M Fz w (resD vs) (outB σ.hp.length (firstB σ.hp.length σ.hp)) v w' := by
        intro v hv
        have le : ∀ b i, cutM σ.hp.length M' b = some i → M' b = some i := fun b i hb => by
          unfold cutM at hb
          split at hb
          · exact hb
          · cases hb
        refine ⟨cutM σ.hp.length M', F', hv, cut_hr ok h3.hr σ.hp.length, ?_, ?_, h3.keep, ?_, h3.f1⟩
        · intro b i hb
          obtain ⟨i', e1, e2⟩ := h3.ext b i hb
          have : b < σ.hp.length := by
            rcases Nat.lt_or_ge b σ.hp.length with h' | h'
            · exact h'
            · rw [h3.hr.out b h'] at e1; cases e1
          exact ⟨i', by simp [cutM, this, e1], e2⟩
        · intro k hk
          exact ⟨h3.f0 k hk, h3.keep.old k (hr.frz k hk) (fun ⟨b, i, e1, e2⟩ => hr.apart b i k e1 e2 hk)⟩
        · rintro k ⟨b, i, e1, e2⟩
          exact h3.own k ⟨b, i, le b i e1, e2⟩
      have hmap : ∀ (f : ResultVar → Sem Value) (l : Array ResultVar) (us : List Value), (l.toList.mapM f).run E.P w' = .ok us w' → (l.mapM f).run E.P w' = .ok us.toArray w' := by
        intro f l us hh
        rw [Array.mapM_eq_mapM_toList]
        show (do let __x ← l.toList.mapM f; pure __x.toArray : Sem (Array Value)).run E.P w' = _
        simp only [Sem.run_bind, hh, Result.andThen, Sem.run_pure]
      have hres := hmap _ _ _ u1
      refine ⟨if h : us.toArray.size = 1 then us.toArray[0] else .tuple us.toArray, ?_, _, rfl, ?_⟩
      · have hfun : results fn a'.tmps = (do let vs ← fn.results.mapM (resF a'.tmps); pure (if h : vs.size = 1 then vs[0] else .tuple vs)) := by
          unfold results
          congr 1
        rw [hfun]
        simp only [Sem.run_bind, hres, Result.andThen, Sem.run_pure]
      · refine hpost _ ?_
        have hul := u2.1
        match vs, us, u2, hul with
        | [y], [u], u2, _ => exact u2.2 0 y u rfl rfl
        | [], [], u2, _ => exact ⟨#[], rfl, u2⟩
        | y :: z :: vs, u :: u' :: us, u2, _ =>
          have : ¬ (u :: u' :: us).toArray.size = 1 := by simp
          rw [dif_neg this]
          exact ⟨_, rfl, by simpa using u2⟩
    · cases hfin
  obtain ⟨e, σ'⟩ := p
  cases e with
  | norm => exact fin hp2
  | exit id => cases hp2
  | ret => exact fin hp2
end
/-- either kind -/
def execX (fresh : Bool) (E : Env U) (f : Func) (args : List (V U)) (hp : List (Blk U)) : Tree (List (V U) × List (Blk U)) := bif fresh then execF2 E f args hp else execF E f args hp
def mkSpecG (A : Arg U α) (B : Bls U γ) (F : α → γ → Option β) (out : α → γ → β → List (V U) × List (Blk U)) (args : List (V U)) (hp : List (Blk U)) : Option (FnOut U) :=
  match A.dec args, B.dec hp with
  | some x, some g => some ⟨β, F x g, fun y => .leaf (out x g y)⟩
  | _, _ => none
def mkSpecG2 {β' : Type} (A : Arg U α) (B : Bls U γ) (F : α → γ → Option (β ⊕ β')) (out : α → γ → β → List (V U) × List (Blk U)) (out' : α → γ → β' → List (V U) × List (Blk U)) (args : List (V U)) (hp : List (Blk U)) : Option (FnOut U) :=
  match A.dec args, B.dec hp with
  | some x, some g => some ⟨β ⊕ β', F x g, fun y => .ite y.isLeft (.opt β y.getLeft? fun z => .leaf (out x g z)) (.opt β' y.getRight? fun z => .leaf (out' x g z))⟩
  | _, _ => none
section
variable {E : Env U}
theorem fn_okX (fresh : Bool) (ok : CdOk E.P E.cd) (env : ∀ f p s, E.fns f = some (p, s) → FnOk E.P E.cd f s) {f : Nat} {fn : Func} (hf : E.P.funcs[f]? = some fn) (hname : (fn.name == "runtime.NumGoroutine") = false) (hl : ∀ c, fn.body = some c → LoopsOk E c 0)
    {spec : List (V U) → List (Blk U) → Option (FnOut U)} (hs : ∀ args hp r, spec args hp = some r → ∀ x, r.o = some x → ∀ p, (r.out x).run = some p → (execX fresh E fn args hp).run = some p) : FnOk E.P E.cd f spec := by
  cases fresh with
  | true => exact fn_ok2 ok env hf hname hl hs
  | false => exact fn_ok ok env hf hname hl hs
theorem mk_okG (fresh : Bool) (ok : CdOk E.P E.cd) (env : ∀ f p s, E.fns f = some (p, s) → FnOk E.P E.cd f s) {f : Nat} {fn : Func} (hf : E.P.funcs[f]? = some fn) (hname : (fn.name == "runtime.NumGoroutine") = false) (hl : ∀ c, fn.body = some c → LoopsOk E c 0)
    {A : Arg U α} {B : Bls U γ} (hA : A.Ok) (hB : B.Ok) {T : α → γ → Tree β} {F : α → γ → Option β} {out : α → γ → β → List (V U) × List (Blk U)} (hF : ∀ x g, F x g = (T x g).run) (hrun : ∀ x g, execX fresh E fn (A.enc x) (B.enc g) = (T x g).map (out x g)) : FnOk E.P E.cd f (mkSpecG A B F out) := by
  refine fn_okX fresh ok env hf hname hl fun args hp r hs x hx p hp => ?_
  unfold mkSpecG at hs
  split at hs
  · rename_i y g h1 h2
    injection hs with hs
    subst hs
    rw [hA _ _ h1, hB _ _ h2, hrun, Tree.run_map]
    have hx : F y g = some x := hx
    have hp : some (out y g x) = some p := hp
    rw [← hF, hx, ← hp]
    rfl
  · cases hs
theorem mk_okG2 {β' : Type} (fresh : Bool) (ok : CdOk E.P E.cd) (env : ∀ f p s, E.fns f = some (p, s) → FnOk E.P E.cd f s) {f : Nat} {fn : Func} (hf : E.P.funcs[f]? = some fn) (hname : (fn.name == "runtime.NumGoroutine") = false) (hl : ∀ c, fn.body = some c → LoopsOk E c 0)
    {A : Arg U α} {B : Bls U γ} (hA : A.Ok) (hB : B.Ok) {T : α → γ → Tree (β ⊕ β')} {F : α → γ → Option (β ⊕ β')} {out : α → γ → β → List (V U) × List (Blk U)} {out' : α → γ → β' → List (V U) × List (Blk U)} (hF : ∀ x g, F x g = (T x g).run)
    (hrun : ∀ x g, execX fresh E fn (A.enc x) (B.enc g) = (T x g).map (Sum.elim (out x g) (out' x g))) : FnOk E.P E.cd f (mkSpecG2 A B F out out') := by
  refine fn_okX fresh ok env hf hname hl fun args hp r hs x hx p hp => ?_
  unfold mkSpecG2 at hs
  split at hs
  · rename_i y g h1 h2
    injection hs with hs
    subst hs
    rw [hA _ _ h1, hB _ _ h2, hrun, Tree.run_map]
    have hx : F y g = some x := hx
    rw [← hF, hx]
    cases x with
    | inl z => exact hp
    | inr z => exact hp
  · cases hs
end
/-- one contract or the other -/
def orSpec (s t : List (V U) → List (Blk U) → Option (FnOut U)) (args : List (V U)) (hp : List (Blk U)) : Option (FnOut U) := match s args hp with
  | some r => some r
  | none => t args hp
theorem orSpec_ok {P : Program} {cd : Cd U} {f : Nat} {s t : List (V U) → List (Blk U) → Option (FnOut U)} (hs : FnOk P cd f s) (ht : FnOk P cd f t) : FnOk P cd f (orSpec s t) := by
  intro M Fz w hp args vargs h1 h2 r hr
  unfold orSpec at hr
  split at hr
  · rename_i r' e
    injection hr with hr
    subst hr
    exact hs M Fz w hp args vargs h1 h2 r' e
  · exact ht M Fz w hp args vargs h1 h2 r hr
/-- a function value whose captured variables are handed as blocks -/
def sameL : List (C U) → List (C U) → Bool
  | [], [] => true
  | x :: l, y :: k => bif sameC x y then sameL l k else false
  | _, _ => false
theorem sameL_ok : ∀ {l k : List (C U)}, sameL l k = true → k = l
  | [], [], _ => rfl
  | x :: l, y :: k, h => by
    simp only [sameL, cond_eq_ite] at h
    split at h
    · rename_i hx
      rw [sameC_ok hx, sameL_ok h]
    · cases h
  | [], _ :: _, h => by cases h
  | _ :: _, [], h => by cases h
def sameC2 : C U → C U → Bool
  | .fn f [] a, .fn f' [] b => bif Nat.beq f f' then sameL a b else false
  | x, z => sameC x z
theorem sameC2_ok {x z : C U} (h : sameC2 x z = true) : z = x := by
  unfold sameC2 at h
  split at h
  · rw [cond_eq_ite] at h
    split at h
    · rename_i hf
      rw [Nat.eq_of_beq_eq_true hf, sameL_ok h]
    · cases h
  · exact sameC_ok h
def cK2 (x : C U) (c : Cdc U α) : Cdc U α := cLit x (sameC2 x) c
theorem cK2_ok {x : C U} {c : Cdc U α} (hc : c.Ok) : (cK2 x c).Ok := cLit_ok hc fun _ h => sameC2_ok h
def aF (f : Nat) (cs : List (C U)) (r : Arg U β) : Arg U β := ⟨fun x => .one (.fn f [] cs) :: r.enc x, fun
  | .one (.fn f' [] cs') :: l => bif Nat.beq f' f && sameL cs cs' then r.dec l else none
  | _ => none⟩
theorem aF_ok {f : Nat} {cs : List (C U)} {r : Arg U β} (hr : r.Ok) : (aF f cs r).Ok := by
  intro vs x h
  simp only [aF, cond_eq_ite] at h
  split at h
  · split at h
    · rename_i hb
      simp only [Bool.and_eq_true] at hb
      rw [hr _ _ h, Nat.eq_of_beq_eq_true hb.1, sameL_ok hb.2]
      rfl
    · cases h
  · cases h
end Go.Ab
end
section
set_option linter.unusedSimpArgs false
namespace Go.Ab
open Go.Shelf Go.RowKit Go.Lib Go.Proofs
variable {U : Nat → Type}
section
variable {P : Program} {cd : Cd U} {ρ : Ren}
/-- what a clone of a string comes to -/
def strCloneF (s : List UInt8) : Option (List UInt8) := if s.length ≤ 281474976710656 then some s else none
theorem strClone_ok (L : LaysPu.n25 P ρ) {f : Nat} {fn : Func} (hf : P.funcs[f]? = some fn) (hname : (fn.name == "runtime.NumGoroutine") = false) (hb : fn.body.isSome = true) (hff : ρ.f 25 = f) : FnOk P cd f (mkSpec (aO cStr aNil : Arg U (List UInt8 × Unit)) bNil (fun x _ => strCloneF x.1) fun r => ([vO cStr r], [])) := by
  subst hff
  intro M Fz w hp args vargs hhr hargs r hs x hx p hp1
  unfold mkSpec at hs
  split at hs
  · rename_i y g h1 h2
    injection hs with hs
    subst hs
    have hx : strCloneF y.1 = some x := hx
    unfold strCloneF at hx
    split at hx
    · rename_i hlen
      injection hx with hx
      have hp1 : some (([vO cStr x], []) : List (V U) × List (Blk U)) = some p := hp1
      injection hp1 with hp1
      subst hp1
      have ha := (aO_ok cStr_ok (aNil_ok (U := U))) _ _ h1
      have hbk := (bNil_ok (U := U)) _ _ h2
      have hp0 : hp = [] := hbk
      subst hp0
      have ha : args = [.one (.str y.1)] := ha
      subst ha
      refine ⟨fn, hf, hname, hb, ?_⟩
      obtain ⟨u, rfl⟩ : ∃ u, vargs = [u] := by
        have := hargs.1
        match vargs, this with
        | [u], _ => exact ⟨u, rfl⟩
      have h0 : R1 P cd M Fz w (.str y.1) u := hargs.2 0 _ u rfl rfl
      cases h0
      have hM : ∀ b, M b = none := fun b => hhr.out b (Nat.zero_le _)
      refine (AnyPu.stringslite_Clone L ⟨y.1.toArray⟩ w (by simpa [ByteArray.size] using hlen)).mono fun e w' ⟨he, hbel⟩ => ⟨_, he, ?_⟩
      refine ⟨M, Fz, ?_, ?_, .refl _, fun k hk => ⟨hk, hbel.block k (hhr.frz k hk)⟩, ⟨hbel.os, hbel.tape, hbel.output, hbel.size, fun k hk _ => hbel.block k hk⟩, fun k hk => .inl hk, fun k hk => .inl hk⟩
      · subst hx
        exact R1.str y.1
      · refine ⟨fun b z hz => absurd hz (by simp), fun b _ => hM b, fun b b' i i' k h3 => absurd h3 (by rw [hM]; simp), fun b i k h3 => absurd h3 (by rw [hM]; simp), fun k hk => ?_, fun b i k h3 => absurd h3 (by rw [hM]; simp)⟩
        have := hhr.frz k hk
        have := hbel.size
        omega
    · cases hx
  · cases hs
end
end Go.Ab
end
section
set_option linter.unusedSimpArgs false
namespace Go.Ab
open Go.Shelf Go.RowKit Go.Lib Go.Proofs
variable {U : Nat → Type}
section
variable {P : Program} {cd : Cd U} {ρ : Ren}
/-- the first place of a byte, or -1 -/
def idxF (s : List UInt8) (c : Int) : Option Int := some (Lib.indexByte s c.toNat.toUInt8)
theorem idx_ok (L : Lays.n137 P ρ) {f : Nat} {fn : Func} (hf : P.funcs[f]? = some fn) (hname : (fn.name == "runtime.NumGoroutine") = false) (hb : fn.body.isSome = true) (hff : ρ.f 137 = f) : FnOk P cd f (mkSpec (aO cStr (aO (cInt .u8) aNil) : Arg U (List UInt8 × Int × Unit)) bNil (fun x _ => idxF x.1 x.2.1) fun r => ([vO (cInt .i64) r], [])) := by
  subst hff
  intro M Fz w hp args vargs hhr hargs r hs x hx p hp1
  unfold mkSpec at hs
  split at hs
  · rename_i y g h1 h2
    injection hs with hs
    subst hs
    have hx : idxF y.1 y.2.1 = some x := hx
    unfold idxF at hx
    injection hx with hx
    have hp1 : some (([vO (cInt .i64) x], []) : List (V U) × List (Blk U)) = some p := hp1
    injection hp1 with hp1
    subst hp1
    have ha := (aO_ok cStr_ok (aO_ok (cInt_ok .u8) (aNil_ok (U := U)))) _ _ h1
    have hbk := (bNil_ok (U := U)) _ _ h2
    have hp0 : hp = [] := hbk
    subst hp0
    have ha : args = [.one (.str y.1), .one (.int .u8 y.2.1)] := ha
    subst ha
    refine ⟨fn, hf, hname, hb, ?_⟩
    obtain ⟨u, v, rfl⟩ : ∃ u v, vargs = [u, v] := by
      have := hargs.1
      match vargs, this with
      | [u, v], _ => exact ⟨u, v, rfl⟩
    have h0 : R1 P cd M Fz w (.str y.1) u := hargs.2 0 _ u rfl rfl
    have h0' : R1 P cd M Fz w (.int .u8 y.2.1) v := hargs.2 1 _ v rfl rfl
    cases h0
    cases h0'
    refine (Any.strings_IndexByte L ⟨y.1.toArray⟩ y.2.1 w).mono fun e w' ⟨he, hw⟩ => ⟨_, he, ?_⟩
    subst hw
    refine ⟨M, Fz, ?_, hhr, .refl _, .refl _ _, .refl _ _, fun k hk => .inl hk, fun k hk => .inl hk⟩
    subst hx
    exact R1.int _ _
  · cases hs
end
end Go.Ab
end
section
set_option linter.unusedSimpArgs false
namespace Go.Ab
open Go.Shelf Go.RowKit Go.Lib Go.Proofs
variable {U : Nat → Type}
section
variable {P : Program} {cd : Cd U} {ρ : Ren}
def copies (l : List UInt8) : Nat → List UInt8
  | 0 => []
  | c + 1 => l ++ copies l c
theorem copies_eq (l : List UInt8) : ∀ c, Lib.repeatL l c = copies l c
  | 0 => rfl
  | c + 1 => by rw [Lib.repeatL, copies, copies_eq l c]
/-- what copies of a string come to -/
def repF (s : List UInt8) (n : Int) : Option (List UInt8) := if 0 ≤ n ∧ n ≤ 9223372036854775807 ∧ (s.length : Int) * n ≤ 140737488355328 then some (copies s n.toNat) else none
theorem rep_ok (L : Lays.n105 P ρ) (X : Builder.Extra P ρ) {f : Nat} {fn : Func} (hf : P.funcs[f]? = some fn) (hname : (fn.name == "runtime.NumGoroutine") = false) (hb : fn.body.isSome = true) (hff : ρ.f 105 = f) : FnOk P cd f (mkSpec (aO cStr (aO (cInt .i64) aNil) : Arg U (List UInt8 × Int × Unit)) bNil (fun x _ => repF x.1 x.2.1) fun r => ([vO cStr r], [])) := by
  subst hff
  intro M Fz w hp args vargs hhr hargs r hs x hx p hp1
  unfold mkSpec at hs
  split at hs
  · rename_i y g h1 h2
    injection hs with hs
    subst hs
    have hx : repF y.1 y.2.1 = some x := hx
    unfold repF at hx
    split at hx
    · rename_i hlen
      obtain ⟨q0, q1, q2⟩ := hlen
      injection hx with hx
      have hp1 : some (([vO cStr x], []) : List (V U) × List (Blk U)) = some p := hp1
      injection hp1 with hp1
      subst hp1
      have ha := (aO_ok cStr_ok (aO_ok (cInt_ok .i64) (aNil_ok (U := U)))) _ _ h1
      have hbk := (bNil_ok (U := U)) _ _ h2
      have hp0 : hp = [] := hbk
      subst hp0
      have ha : args = [.one (.str y.1), .one (.int .i64 y.2.1)] := ha
      subst ha
      refine ⟨fn, hf, hname, hb, ?_⟩
      obtain ⟨u, v, rfl⟩ : ∃ u v, vargs = [u, v] := by
        have := hargs.1
        match vargs, this with
        | [u, v], _ => exact ⟨u, v, rfl⟩
      have h0 : R1 P cd M Fz w (.str y.1) u := hargs.2 0 _ u rfl rfl
      have h1' : R1 P cd M Fz w (.int .i64 y.2.1) v := hargs.2 1 _ v rfl rfl
      cases h0
      cases h1'
      have hM : ∀ b, M b = none := fun b => hhr.out b (Nat.zero_le _)
      obtain ⟨n, hn⟩ : ∃ n : Nat, y.2.1 = (n : Int) := ⟨y.2.1.toNat, by omega⟩
      rw [hn] at q1 q2 hx ⊢
      have hsz : (⟨y.1.toArray⟩ : ByteArray).size = y.1.length := by simp [ByteArray.size]
      have q3 : y.1.length * n ≤ 140737488355328 := by
        have : ((y.1.length * n : Nat) : Int) ≤ 140737488355328 := by rw [Int.natCast_mul]; exact q2
        omega
      refine (Any.strings_Repeat L X ⟨y.1.toArray⟩ n w (by omega) (by rw [hsz]; exact q3)).mono fun e w' ⟨he, hbel⟩ => ⟨_, he, ?_⟩
      refine ⟨M, Fz, ?_, ?_, .refl _, fun k hk => ⟨hk, hbel.block k (hhr.frz k hk)⟩, ⟨hbel.os, hbel.tape, hbel.output, hbel.size, fun k hk _ => hbel.block k hk⟩, fun k hk => .inl hk, fun k hk => .inl hk⟩
      · subst hx
        rw [copies_eq, Int.toNat_natCast]
        exact R1.str _
      · refine ⟨fun b z hz => absurd hz (by simp), fun b _ => hM b, fun b b' i i' k h3 => absurd h3 (by rw [hM]; simp), fun b i k h3 => absurd h3 (by rw [hM]; simp), fun k hk => ?_, fun b i k h3 => absurd h3 (by rw [hM]; simp)⟩
        have := hhr.frz k hk
        have := hbel.size
        omega
    · cases hx
  · cases hs
end
end Go.Ab
end
section
set_option linter.unusedSimpArgs false
namespace Go.Ab
open Go.Shelf Go.RowKit Go.Lib Go.Proofs
variable {U : Nat → Type}
section
variable {P : Program} {cd : Cd U} {ρ : Ren}
set_option maxHeartbeats 2000000 in
set_option maxRecDepth 100000 in
theorem clone_at (L : SlLaysE0.n41 P ρ) (i0 : TypeInfo) (z : Value) (size bytes : Nat) (hi : P.info? (ρ.t 23) = some i0) (hz0 : i0.zero = some z) (hz1 : i0.size = size) (hz2 : i0.bytes = bytes) (hzs : z.cells.size = size) (hsz : 0 < size)
    (z23 : ∀ w, (Go.sizeOf (ρ.t 23)).run P w = .ok size w) (ad : Addr) (n c : Nat) (news : List Value) (w : World) (hl : news.length = n * size) (hn : n ≤ maxLen) (hbig : n * bytes ≤ 140737488355328)
    (hc : ∀ j u, news[j]? = some u → w.cell? (ad.add j) = some u) (h1 : ∀ u ∈ news, u.oneCell' = true) :
    Calls P (ρ.f 41) #[.slice (some ad) n c] w fun e w' => ∃ v', e = .returned v' ∧ w'.ownsRow w.heap.size (ρ.t 23) size v' n news ∧ v' ≠ .slice none 0 0 ∧ Below w.heap.size w w' := by
  have mixed := L.mixed; have t4 := L.t4; have a4 := L.a4; have z4 := L.z4; have v4 := L.v4; have t22 := L.t22; have a22 := L.a22; have z22 := L.z22; have v22 := L.v22
  have q22 : ∀ (w : World) (a : Option Addr) (n c n' c' : Nat), (binOp .eql (ρ.t 22) (.slice a n c) (.slice none n' c')).run P w = .ok (.bool a.isNone) w := fun w a n c n' c' => Lib.run_eql_slice_nil w _ _ a n c n' c' L.t22
  have u22 : ∀ w, Sem.run P (underlying (ρ.t 22)) w = .ok (TypeDesc.slice (ρ.t 23)) w := run_underlying t22
  have A : Aside (∀ j u, news[j]? = some u → w.cell? (ad.add j) = some u) := hc
  clear hc
  obtain ⟨_, _, FG⟩ := L.f41
  go_enter FG, SlBodyN.n41_ntmps ρ
  go_wp2_with (at_builtin; refine wpList_append_own _ rfl _ _ (ρ.t 22) rfl w.heap.size (ρ.t 23) i0 z size bytes t22 hi hz0 hz1 hz2 hzs hsz _ _ _ rfl (World.ownsRow_made w #[] 0 (Nat.le_refl _) (Nat.zero_le _) (by simp)) ad n c news rfl ?qc1 ?qc2 ?qc3 ?qc4 ?qc5 ?qc6 ?_)
  case qc1 => exact hl
  case qc2 =>
    intro j u hj
    exact Lib.cell?_alloc_some _ (A.out j u hj)
  case qc3 => exact h1
  case qc4 => rw [Nat.zero_add]; exact hn
  case qc5 => rw [Nat.zero_add]; exact hbig
  case qc6 => simp
  intro v' w1 hown hgrow hnil
  go_wp2
  go_ret
  refine ⟨v', rfl, by simpa using hown, ?_, ?_⟩
  · exact hnil
  · exact ((Below.refl _ w).alloc (Nat.le_refl _) _).grown hgrow (by simp) (by intro k hk; simp [Value.ownBlock] at hk; omega)
/-- what a clone comes to -/
def cloneF {α : Type} (bytes : Nat) (l : List α) : Option (List α) := if l.length * bytes ≤ 140737488355328 then some l else none
def cloneSpec (t bytes : Nat) (args : List (V U)) (hp : List (Blk U)) : Option (FnOut U) := match args, hp with
  | [.one (.sl t' l _)], [] => if h : t' = t then some ⟨List (U t), cloneF bytes (h ▸ l), fun l => .leaf ([.one (.row 0 0)], [.row t 0 l])⟩ else none
  | _, _ => none
theorem clone_ok (ok : CdOk P cd) (L : SlLaysE0.n41 P ρ) {f t bytes : Nat} {fn : Func} (hf : P.funcs[f]? = some fn) (hname : (fn.name == "runtime.NumGoroutine") = false) (hb : fn.body.isSome = true) (hff : ρ.f 41 = f) (htt : ρ.t 23 = t) {i0 : TypeInfo} {z : Value}
    (hi : P.info? t = some i0) (hz0 : i0.zero = some z) (hz2 : i0.bytes = bytes) (hzs : z.cells.size = i0.size) (hsz : 0 < i0.size) (hby : 0 < bytes) (z23 : ∀ w, (Go.sizeOf t).run P w = .ok i0.size w) : FnOk P cd f (cloneSpec t bytes) := by
  subst hff
  subst htt
  intro M Fz w hp args vargs hhr hargs r hs x hx p hp1
  unfold cloneSpec at hs
  split at hs
  · rename_i t' l full
    split at hs
    · rename_i e
      subst e
      injection hs with hs
      subst hs
      have hx : cloneF bytes l = some x := hx
      unfold cloneF at hx
      split at hx
      · rename_i hbig
        injection hx with hx
        subst hx
        have hp1 : some ([.one (.row 0 0)], [.row (ρ.t 23) 0 l]) = some p := hp1
        injection hp1 with hp1
        subst hp1
        refine ⟨fn, hf, hname, hb, ?_⟩
        obtain ⟨u, rfl⟩ : ∃ u, vargs = [u] := by
          have := hargs.1
          match vargs, this with
          | [u], _ => exact ⟨u, rfl⟩
        have h0 : R1 P cd M Fz w (.sl (ρ.t 23) l full) u := hargs.2 0 _ u rfl rfl
        have hsz' : P.cellsOf (ρ.t 23) = i0.size := by simp [Program.cellsOf, hi]
        -- where no block is held before
        have hM : ∀ b, M b = none := fun b => hhr.out b (Nat.zero_le _)
        have post : ∀ (v' : Value) (w' : World) (pos : Option Nat) (cap : Nat), Below w.heap.size w w' → (∀ k, pos = some k → w.heap.size ≤ k ∧ k < w'.heap.size) → RowV pos l.length cap v' → v'.oneCell' = true → RowPos P cd (fun b => if b = 0 then some (.row pos (ρ.t 23) 0 l.length cap) else none) Fz w' (ρ.t 23) l cap pos →
            Post P cd M Fz w (resD [.one (.row 0 0)]) [.row (ρ.t 23) 0 l] v' w' := by
          intro v' w' pos cap hbel hpos hrv hone hrow
          refine ⟨fun b => if b = 0 then some (.row pos (ρ.t 23) 0 l.length cap) else none, Fz, ?_, ?_, ?_, ?_, ⟨hbel.os, hbel.tape, hbel.output, hbel.size, fun k hk _ => hbel.block k hk⟩, ?_, fun k hk => .inl hk⟩
          · exact R1.row 0 0 pos (ρ.t 23) 0 l.length cap v' (by simp) (Nat.le_refl _) hone fun _ => hrv
          · refine ⟨fun b y hy => ?_, fun b hb => ?_, fun b b' i i' k h1 h2 h3 h4 => ?_, fun b i k h1 h2 h3 => ?_, fun k hk => ?_, fun b i k h1 h2 => ?_⟩
            · cases b with
              | zero =>
                simp at hy
                subst hy
                exact ⟨pos, cap, by simp, hrow⟩
              | succ b => simp at hy
            · have : b ≠ 0 := by simp at hb; omega
              simp [this]
            · by_cases hb : b = 0
              · by_cases hb' : b' = 0
                · rw [hb, hb']
                · simp [hb'] at h2
              · simp [hb] at h1
            · by_cases hb : b = 0
              · subst hb
                simp at h1
                subst h1
                have := (hpos k h2).1
                have := hhr.frz k h3
                omega
              · simp [hb] at h1
            · have := hhr.frz k hk
              have := hbel.size
              omega
            · by_cases hb : b = 0
              · subst hb
                simp at h1
                subst h1
                exact (hpos k h2).2
              · simp [hb] at h1
          · intro b i hb
            rw [hM b] at hb
            cases hb
          · intro k hk
            exact ⟨hk, hbel.block k (hhr.frz k hk)⟩
          · rintro k ⟨b, i, h1, h2⟩
            by_cases hb : b = 0
            · subst hb
              simp at h1
              subst h1
              exact .inr (hpos k h2).1
            · simp [hb] at h1
        cases h0 with
        | sl _ _ _ a cap g hfull hle hne hcells =>
          cases a with
          | none =>
            have hl0 : l = [] := by
              cases l with
              | nil => rfl
              | cons y l => obtain ⟨k, o, h, _⟩ := hne (by simp); cases h
            subst hl0
            refine (AnyE.slices_Clone_nil L 0 cap w).mono fun e w' ⟨he, hw⟩ => ⟨_, he, ?_⟩
            rw [hw]
            exact post _ w none 0 (Below.refl _ w) (fun k hk => by cases hk) ⟨none, rfl⟩ rfl rfl
          | some ad =>
            have hcell : ∀ j c, (l.flatMap (cd.enc (ρ.t 23)))[j]? = some c → w.cell? (ad.add j) = some (g j) := by
              intro j c hj
              have hnel : l ≠ [] := by rintro rfl; simp at hj
              obtain ⟨k, o, h1, _, h3⟩ := hne hnel
              injection h1 with h1
              subst h1
              have : (at0 k o).add j = at0 k (o + j) := by unfold Addr.add at0; split <;> simp_all
              rw [this]
              exact h3 j c hj
            have hlen : (l.flatMap (cd.enc (ρ.t 23))).length = l.length * i0.size := by rw [flat_len ok, hsz']
            have hml : l.length ≤ maxLen := by
              have : l.length ≤ l.length * bytes := Nat.le_mul_of_pos_right _ hby
              simp only [maxLen]; omega
            refine (clone_at L i0 z i0.size bytes hi hz0 rfl hz2 hzs hsz z23 ad l.length cap ((List.range (l.length * i0.size)).map g) w (by simp) hml hbig (fun j u hj => ?_) (fun u hu => ?_)).mono fun e w' ⟨v', he, hown, hnn, hbel⟩ => ⟨v', he, ?_⟩
            · rw [List.getElem?_map] at hj
              obtain ⟨j', hj', rfl⟩ := Option.map_eq_some_iff.1 hj
              have hlt := (List.getElem?_eq_some_iff.1 hj').1
              have : j' = j := by have := (List.getElem?_eq_some_iff.1 hj').2; simpa using this.symm
              subst this
              have hlt : j' < l.length * i0.size := by simpa using hlt
              exact hcell j' _ (List.getElem?_eq_getElem (by rw [hlen]; exact hlt))
            · obtain ⟨j, hj, rfl⟩ := List.mem_map.1 hu
              have hj : j < l.length * i0.size := by simpa using hj
              have hcj := List.getElem?_eq_getElem (show j < (l.flatMap (cd.enc (ρ.t 23))).length by rw [hlen]; exact hj)
              refine (hcells j _ hcj).scal ?_
              have := plain_flat ok hcj
              revert this
              generalize (l.flatMap (cd.enc (ρ.t 23)))[j] = cc
              intro hp
              cases cc <;> first | rfl | (simp [plainC] at hp)
            · obtain ⟨_, hv⟩ := hown
              rcases hv with ⟨hv, _⟩ | ⟨k, cap', cur, rfl, hk, hheap, hn1, hn2, hsize, htake⟩
              · exact absurd hv hnn
              · have hklt : k < w'.heap.size := (Array.getElem?_eq_some_iff.1 hheap).1
                refine post _ w' (some k) cap' hbel (fun k' e => by injection e with e; subst e; exact ⟨hk, hklt⟩) rfl rfl ⟨cur, ⟨hheap, hn1, hn2, by rw [hsize, hsz'], fun j c hj => ?_⟩⟩
                have hjl := (List.getElem?_eq_some_iff.1 hj).1
                rw [hlen] at hjl
                refine ⟨g j, ?_, ((hcells j c hj).plain ok (fun _ h => h) (plain_flat ok hj)).mono (Ext.refl _) fun k' hk' => ⟨hk', hbel.block k' (hhr.frz k' hk')⟩⟩
                have : cur.toList[j]? = some (g j) := by
                  have h2 : (cur.toList.take (l.length * i0.size))[j]? = some (g j) := by
                    rw [htake, List.getElem?_map, List.getElem?_range hjl]
                    rfl
                  rw [List.getElem?_take, if_pos hjl] at h2
                  exact h2
                simpa using this
      · cases hx
    · cases hs
  · cases hs
def cloneB (P : Program) (t bytes : Nat) : Bool := match P.info? t with
  | some i => (match i.zero with
    | some z => decide (z.cells.size = i.size) && decide (0 < i.size) && decide (i.bytes = bytes) && decide (0 < bytes)
    | none => false)
  | none => false
theorem clone_ok2 (ok : CdOk P cd) (L : SlLaysE0.n41 P ρ) {f t bytes : Nat} {fn : Func} (hf : P.funcs[f]? = some fn) (hname : (fn.name == "runtime.NumGoroutine") = false) (hb : fn.body.isSome = true) (hff : ρ.f 41 = f) (htt : ρ.t 23 = t) (hc : cloneB P t bytes = true) : FnOk P cd f (cloneSpec t bytes) := by
  unfold cloneB at hc
  split at hc
  · rename_i i hi
    split at hc
    · rename_i z hz
      simp only [Bool.and_eq_true, decide_eq_true_eq] at hc
      exact clone_ok ok L hf hname hb hff htt hi hz hc.1.2 hc.1.1.1 hc.1.1.2 hc.2 fun w => by simp [Go.sizeOf, typeInfo, hi]
    · cases hc
  · cases hc
end
end Go.Ab
end
section
set_option linter.unusedSimpArgs false
namespace Go.Proofs.Ytlaabdpccdnalaa
open Go Go.Ab
structure Cpu where
  r : (List Int)
  sP : (List Int)
  pC : Int
  pSW : Int
  deriving DecidableEq
structure Page where
  base : Int
  length : Int
  access : Int
  written : Bool
  deriving DecidableEq
structure Mmu where
  on : Bool
  pages : (List Page)
  status : Int
  addr : Int
  deriving DecidableEq
structure Clock where
  enable : Bool
  ready : Bool
  period : Int
  left : Int
  deriving DecidableEq
structure Line where
  rxEnable : Bool
  rxReady : Bool
  overrun : Bool
  rxData : Int
  txEnable : Bool
  txReady : Bool
  txData : Int
  txLeft : Int
  out : (List UInt8)
  deriving DecidableEq
structure Drive where
  sectors : (List (List UInt8))
  bad : (List Int)
  deriving DecidableEq
structure Disk where
  drive : Drive
  enable : Bool
  ready : Bool
  error : Bool
  command : Int
  words : Int
  addr : Int
  start : Int
  left : Int
  deriving DecidableEq
structure Tape where
  records : (List (List UInt8))
  pos : Int
  enable : Bool
  ready : Bool
  error : Bool
  mark : Bool
  end_ : Bool
  command : Int
  count : Int
  addr : Int
  left : Int
  deriving DecidableEq
structure Machine where
  cpu : Cpu
  mem : (List Int)
  bad : (List Int)
  mmu : Mmu
  clock : Clock
  lines : (List Line)
  disk : Disk
  tape : Tape
  now : Int
  halted : Bool
  waiting : Bool
  power : Int
  powerTrap : Bool
  deriving DecidableEq
structure Symbol where
  name : (List UInt8)
  section_ : Int
  value : Int
  global : Bool
  deriving DecidableEq
structure Image where
  text : (List UInt8)
  data : (List UInt8)
  bss : Int
  entry : Int
  symbols : (List Symbol)
  deriving DecidableEq
abbrev tys : List (Nat × Type) := [(3, Int), (5, Int), (9, (List UInt8)), (28, Page), (97, Line), (100, Symbol)]
abbrev U : Nat → Type := findT tys
noncomputable def cCpu : Cdc U Cpu := cMap (fun x => Cpu.mk x.1 x.2.1 x.2.2.1 x.2.2.2.1) (fun x => (x.r, x.sP, x.pC, x.pSW, ())) (cPair (cArr 3 6) (cPair (cArr 3 2) (cPair (cInt .i64) (cPair (cInt .i64) (cUnit)))))
theorem cCpu_ok : cCpu.Ok := cMap_ok (cPair_ok (cArr_ok 3 6) (cPair_ok (cArr_ok 3 2) (cPair_ok (cInt_ok .i64) (cPair_ok (cInt_ok .i64) cUnit_ok)))) fun _ => rfl
noncomputable def cPage : Cdc U Page := cMap (fun x => Page.mk x.1 x.2.1 x.2.2.1 x.2.2.2.1) (fun x => (x.base, x.length, x.access, x.written, ())) (cPair (cInt .i64) (cPair (cInt .i64) (cPair (cInt .i64) (cPair cBool (cUnit)))))
theorem cPage_ok : cPage.Ok := cMap_ok (cPair_ok (cInt_ok .i64) (cPair_ok (cInt_ok .i64) (cPair_ok (cInt_ok .i64) (cPair_ok cBool_ok cUnit_ok)))) fun _ => rfl
noncomputable def cMmu : Cdc U Mmu := cMap (fun x => Mmu.mk x.1 x.2.1 x.2.2.1 x.2.2.2.1) (fun x => (x.on, x.pages, x.status, x.addr, ())) (cPair cBool (cPair (cArr 28 16) (cPair (cInt .i64) (cPair (cInt .i64) (cUnit)))))
theorem cMmu_ok : cMmu.Ok := cMap_ok (cPair_ok cBool_ok (cPair_ok (cArr_ok 28 16) (cPair_ok (cInt_ok .i64) (cPair_ok (cInt_ok .i64) cUnit_ok)))) fun _ => rfl
noncomputable def cClock : Cdc U Clock := cMap (fun x => Clock.mk x.1 x.2.1 x.2.2.1 x.2.2.2.1) (fun x => (x.enable, x.ready, x.period, x.left, ())) (cPair cBool (cPair cBool (cPair (cInt .i64) (cPair (cInt .i64) (cUnit)))))
theorem cClock_ok : cClock.Ok := cMap_ok (cPair_ok cBool_ok (cPair_ok cBool_ok (cPair_ok (cInt_ok .i64) (cPair_ok (cInt_ok .i64) cUnit_ok)))) fun _ => rfl
noncomputable def cLine : Cdc U Line := cMap (fun x => Line.mk x.1 x.2.1 x.2.2.1 x.2.2.2.1 x.2.2.2.2.1 x.2.2.2.2.2.1 x.2.2.2.2.2.2.1 x.2.2.2.2.2.2.2.1 x.2.2.2.2.2.2.2.2.1) (fun x => (x.rxEnable, x.rxReady, x.overrun, x.rxData, x.txEnable, x.txReady, x.txData, x.txLeft, x.out, ())) (cPair cBool (cPair cBool (cPair cBool (cPair (cInt .i64) (cPair cBool (cPair cBool (cPair (cInt .i64) (cPair (cInt .i64) (cPair cStr (cUnit))))))))))
theorem cLine_ok : cLine.Ok := cMap_ok (cPair_ok cBool_ok (cPair_ok cBool_ok (cPair_ok cBool_ok (cPair_ok (cInt_ok .i64) (cPair_ok cBool_ok (cPair_ok cBool_ok (cPair_ok (cInt_ok .i64) (cPair_ok (cInt_ok .i64) (cPair_ok cStr_ok cUnit_ok))))))))) fun _ => rfl
noncomputable def cDrive : Cdc U Drive := cMap (fun x => Drive.mk x.1 x.2.1) (fun x => (x.sectors, x.bad, ())) (cPair (cSl 9) (cPair (cSl 3) (cUnit)))
theorem cDrive_ok : cDrive.Ok := cMap_ok (cPair_ok (cSl_ok 9) (cPair_ok (cSl_ok 3) cUnit_ok)) fun _ => rfl
noncomputable def cDisk : Cdc U Disk := cMap (fun x => Disk.mk x.1 x.2.1 x.2.2.1 x.2.2.2.1 x.2.2.2.2.1 x.2.2.2.2.2.1 x.2.2.2.2.2.2.1 x.2.2.2.2.2.2.2.1 x.2.2.2.2.2.2.2.2.1) (fun x => (x.drive, x.enable, x.ready, x.error, x.command, x.words, x.addr, x.start, x.left, ())) (cPair cDrive (cPair cBool (cPair cBool (cPair cBool (cPair (cInt .i64) (cPair (cInt .i64) (cPair (cInt .i64) (cPair (cInt .i64) (cPair (cInt .i64) (cUnit))))))))))
theorem cDisk_ok : cDisk.Ok := cMap_ok (cPair_ok cDrive_ok (cPair_ok cBool_ok (cPair_ok cBool_ok (cPair_ok cBool_ok (cPair_ok (cInt_ok .i64) (cPair_ok (cInt_ok .i64) (cPair_ok (cInt_ok .i64) (cPair_ok (cInt_ok .i64) (cPair_ok (cInt_ok .i64) cUnit_ok))))))))) fun _ => rfl
noncomputable def cTape : Cdc U Tape := cMap (fun x => Tape.mk x.1 x.2.1 x.2.2.1 x.2.2.2.1 x.2.2.2.2.1 x.2.2.2.2.2.1 x.2.2.2.2.2.2.1 x.2.2.2.2.2.2.2.1 x.2.2.2.2.2.2.2.2.1 x.2.2.2.2.2.2.2.2.2.1 x.2.2.2.2.2.2.2.2.2.2.1) (fun x => (x.records, x.pos, x.enable, x.ready, x.error, x.mark, x.end_, x.command, x.count, x.addr, x.left, ())) (cPair (cSl 9) (cPair (cInt .i64) (cPair cBool (cPair cBool (cPair cBool (cPair cBool (cPair cBool (cPair (cInt .i64) (cPair (cInt .i64) (cPair (cInt .i64) (cPair (cInt .i64) (cUnit))))))))))))
theorem cTape_ok : cTape.Ok := cMap_ok (cPair_ok (cSl_ok 9) (cPair_ok (cInt_ok .i64) (cPair_ok cBool_ok (cPair_ok cBool_ok (cPair_ok cBool_ok (cPair_ok cBool_ok (cPair_ok cBool_ok (cPair_ok (cInt_ok .i64) (cPair_ok (cInt_ok .i64) (cPair_ok (cInt_ok .i64) (cPair_ok (cInt_ok .i64) cUnit_ok))))))))))) fun _ => rfl
noncomputable def cMachine : Cdc U Machine := cMap (fun x => Machine.mk x.1 x.2.1 x.2.2.1 x.2.2.2.1 x.2.2.2.2.1 x.2.2.2.2.2.1 x.2.2.2.2.2.2.1 x.2.2.2.2.2.2.2.1 x.2.2.2.2.2.2.2.2.1 x.2.2.2.2.2.2.2.2.2.1 x.2.2.2.2.2.2.2.2.2.2.1 x.2.2.2.2.2.2.2.2.2.2.2.1 x.2.2.2.2.2.2.2.2.2.2.2.2.1) (fun x => (x.cpu, x.mem, x.bad, x.mmu, x.clock, x.lines, x.disk, x.tape, x.now, x.halted, x.waiting, x.power, x.powerTrap, ())) (cPair cCpu (cPair (cSl 3) (cPair (cSl 3) (cPair cMmu (cPair cClock (cPair (cSl 97) (cPair cDisk (cPair cTape (cPair (cInt .i64) (cPair cBool (cPair cBool (cPair (cInt .i64) (cPair cBool (cUnit))))))))))))))
theorem cMachine_ok : cMachine.Ok := cMap_ok (cPair_ok cCpu_ok (cPair_ok (cSl_ok 3) (cPair_ok (cSl_ok 3) (cPair_ok cMmu_ok (cPair_ok cClock_ok (cPair_ok (cSl_ok 97) (cPair_ok cDisk_ok (cPair_ok cTape_ok (cPair_ok (cInt_ok .i64) (cPair_ok cBool_ok (cPair_ok cBool_ok (cPair_ok (cInt_ok .i64) (cPair_ok cBool_ok cUnit_ok))))))))))))) fun _ => rfl
noncomputable def cSymbol : Cdc U Symbol := cMap (fun x => Symbol.mk x.1 x.2.1 x.2.2.1 x.2.2.2.1) (fun x => (x.name, x.section_, x.value, x.global, ())) (cPair cStr (cPair (cInt .i64) (cPair (cInt .i64) (cPair cBool (cUnit)))))
theorem cSymbol_ok : cSymbol.Ok := cMap_ok (cPair_ok cStr_ok (cPair_ok (cInt_ok .i64) (cPair_ok (cInt_ok .i64) (cPair_ok cBool_ok cUnit_ok)))) fun _ => rfl
noncomputable def cImage : Cdc U Image := cMap (fun x => Image.mk x.1 x.2.1 x.2.2.1 x.2.2.2.1 x.2.2.2.2.1) (fun x => (x.text, x.data, x.bss, x.entry, x.symbols, ())) (cPair cStr (cPair cStr (cPair (cInt .i64) (cPair (cInt .i64) (cPair (cSl 100) (cUnit))))))
theorem cImage_ok : cImage.Ok := cMap_ok (cPair_ok cStr_ok (cPair_ok cStr_ok (cPair_ok (cInt_ok .i64) (cPair_ok (cInt_ok .i64) (cPair_ok (cSl_ok 100) cUnit_ok))))) fun _ => rfl
noncomputable def ents : Ents U tys := .cons ⟨(cInt .i64), some (0 : Int), none, some inferInstance⟩ (.cons ⟨(cInt .u8), some (0 : Int), some (fun x => x, fun x => x), some inferInstance⟩ (.cons ⟨cStr, some ([] : List UInt8), none, some inferInstance⟩ (.cons ⟨cPage, some (Page.mk (0 : Int) (0 : Int) (0 : Int) false), none, some inferInstance⟩ (.cons ⟨cLine, some (Line.mk false false false (0 : Int) false false (0 : Int) (0 : Int) ([] : List UInt8)), none, some inferInstance⟩ (.cons ⟨cSymbol, some (Symbol.mk ([] : List UInt8) (0 : Int) (0 : Int) false), none, some inferInstance⟩ (.nil))))))
noncomputable def cd : Cd U := cdOf ents
theorem eqSPage (cd : Cd U) (x y : Page) : eqT Try.prog cd false 4 28 (cPage.enc x) (cPage.enc y) = some (decide (x = y)) := by
  have h : eqT Try.prog cd false 4 28 (cPage.enc x) (cPage.enc y) = some (decide (x.base = y.base) && (decide (x.length = y.length) && (decide (x.access = y.access) && (x.written == y.written)))) := by kernel_rfl
  rw [h]
  cases x; cases y; rw [Option.some.injEq, Bool.eq_iff_iff]; simp
theorem eqSLine (cd : Cd U) (x y : Line) : eqT Try.prog cd false 4 97 (cLine.enc x) (cLine.enc y) = some (decide (x = y)) := by
  have h : eqT Try.prog cd false 4 97 (cLine.enc x) (cLine.enc y) = some ((x.rxEnable == y.rxEnable) && ((x.rxReady == y.rxReady) && ((x.overrun == y.overrun) && (decide (x.rxData = y.rxData) && ((x.txEnable == y.txEnable) && ((x.txReady == y.txReady) && (decide (x.txData = y.txData) && (decide (x.txLeft = y.txLeft) && decide (x.out = y.out))))))))) := by kernel_rfl
  rw [h]
  cases x; cases y; rw [Option.some.injEq, Bool.eq_iff_iff]; simp
theorem eqSSymbol (cd : Cd U) (x y : Symbol) : eqT Try.prog cd false 4 100 (cSymbol.enc x) (cSymbol.enc y) = some (decide (x = y)) := by
  have h : eqT Try.prog cd false 4 100 (cSymbol.enc x) (cSymbol.enc y) = some (decide (x.name = y.name) && (decide (x.section_ = y.section_) && (decide (x.value = y.value) && (x.global == y.global)))) := by kernel_rfl
  rw [h]
  cases x; cases y; rw [Option.some.injEq, Bool.eq_iff_iff]; simp
theorem ents_ok : EntsOk Try.prog ents := ⟨⟨(cInt_ok .i64), (fun x => by kernel_rfl), (fun x => List.all_eq_true.1 (show (((cInt .i64) : Cdc U _).enc x).all plainC = true by kernel_rfl)), (fun f g h => by cases h), (fun d h cd x y => by cases h; exact eqT_int cd (by kernel_rfl) x y)⟩, ⟨(cInt_ok .u8), (fun x => by kernel_rfl), (fun x => List.all_eq_true.1 (show (((cInt .u8) : Cdc U _).enc x).all plainC = true by kernel_rfl)), (fun f g h => by simp only [Option.some.injEq, Prod.mk.injEq] at h; obtain ⟨rfl, rfl⟩ := h; exact ⟨by kernel_rfl, fun _ => rfl, fun _ => rfl⟩), (fun d h cd x y => by cases h; exact eqT_int cd (by kernel_rfl) x y)⟩, ⟨cStr_ok, (fun x => by kernel_rfl), (fun x => List.all_eq_true.1 (show ((cStr : Cdc U _).enc x).all plainC = true by kernel_rfl)), (fun f g h => by cases h), (fun d h cd x y => by cases h; exact eqT_string cd (by kernel_rfl) x y)⟩, ⟨cPage_ok, (fun x => by kernel_rfl), (fun x => List.all_eq_true.1 (show ((cPage : Cdc U _).enc x).all plainC = true by kernel_rfl)), (fun f g h => by cases h), (fun d h cd x y => by cases h; exact eqSPage cd x y)⟩, ⟨cLine_ok, (fun x => by kernel_rfl), (fun x => List.all_eq_true.1 (show ((cLine : Cdc U _).enc x).all plainC = true by kernel_rfl)), (fun f g h => by cases h), (fun d h cd x y => by cases h; exact eqSLine cd x y)⟩, ⟨cSymbol_ok, (fun x => by kernel_rfl), (fun x => List.all_eq_true.1 (show ((cSymbol : Cdc U _).enc x).all plainC = true by kernel_rfl)), (fun f g h => by cases h), (fun d h cd x y => by cases h; exact eqSSymbol cd x y)⟩, trivial⟩
theorem cd_ok : CdOk Try.prog cd := cdOf_ok ents ents_ok
/-- emulator/emulatorlaw18.Small -/
structure Slaw18_Small_0 where
  t3 : Int
  t4 : Int
  b0 : Machine
noncomputable def Wlaw18_Small_0 (s : Slaw18_Small_0) : Tree (Slaw18_Small_0 ⊕ (Int × Machine)) :=
  .ite (decide (s.t4 < (s.b0.disk.drive.sectors.length : Int)))
    (.ite (decide (s.t4 < (300 : Int)))
      (.ite (decide (0 ≤ s.t4))
        (.opt (List UInt8) (s.b0.disk.drive.sectors[(s.t4).toNat]?) fun y1 =>
          .leaf (.inl (Slaw18_Small_0.mk (IntKind.wrap .i64 (s.t3 + (if (100000 : Int) < (y1.length : Int) then (100000 : Int) else (y1.length : Int)))) (IntKind.wrap .i64 (s.t4 + (1 : Int))) s.b0)))
        .fail)
      (.leaf (.inr (s.t3, s.b0))))
    (.leaf (.inr (s.t3, s.b0)))
noncomputable def Llaw18_Small_0 (q : Option Nat) (s : Slaw18_Small_0) : Option (Int × Machine) := limQ q (fun s => (Wlaw18_Small_0 s).run) s
theorem leLlaw18_Small_0 (k : Nat) (s : Slaw18_Small_0) : Le (Llaw18_Small_0 (some k) s) (Llaw18_Small_0 none s) := limQ_le (fun _ => Le.rfl) s
structure Slaw18_Small_1 where
  t3 : Int
  t5 : Int
  b0 : Machine
noncomputable def Wlaw18_Small_1 (s : Slaw18_Small_1) : Tree (Slaw18_Small_1 ⊕ (Int × Machine)) :=
  .ite (decide (s.t5 < (s.b0.tape.records.length : Int)))
    (.ite (decide (s.t5 < (300 : Int)))
      (.ite (decide (0 ≤ s.t5))
        (.opt (List UInt8) (s.b0.tape.records[(s.t5).toNat]?) fun y3 =>
          .leaf (.inl (Slaw18_Small_1.mk (IntKind.wrap .i64 (s.t3 + (if (100000 : Int) < (y3.length : Int) then (100000 : Int) else (y3.length : Int)))) (IntKind.wrap .i64 (s.t5 + (1 : Int))) s.b0)))
        .fail)
      (.leaf (.inr (s.t3, s.b0))))
    (.leaf (.inr (s.t3, s.b0)))
noncomputable def Llaw18_Small_1 (q : Option Nat) (s : Slaw18_Small_1) : Option (Int × Machine) := limQ q (fun s => (Wlaw18_Small_1 s).run) s
theorem leLlaw18_Small_1 (k : Nat) (s : Slaw18_Small_1) : Le (Llaw18_Small_1 (some k) s) (Llaw18_Small_1 none s) := limQ_le (fun _ => Le.rfl) s
structure Slaw18_Small_2 where
  t3 : Int
  t6 : Int
  b0 : Machine
noncomputable def Wlaw18_Small_2 (s : Slaw18_Small_2) : Tree (Slaw18_Small_2 ⊕ (Int × Machine)) :=
  .ite (decide (s.t6 < (s.b0.lines.length : Int)))
    (.ite (decide (s.t6 < (9 : Int)))
      (.ite (decide (0 ≤ s.t6))
        (.opt Line (s.b0.lines[(s.t6).toNat]?) fun y5 =>
          .leaf (.inl (Slaw18_Small_2.mk (IntKind.wrap .i64 (s.t3 + (if (100000 : Int) < (y5.out.length : Int) then (100000 : Int) else (y5.out.length : Int)))) (IntKind.wrap .i64 (s.t6 + (1 : Int))) s.b0)))
        .fail)
      (.leaf (.inr (s.t3, s.b0))))
    (.leaf (.inr (s.t3, s.b0)))
noncomputable def Llaw18_Small_2 (q : Option Nat) (s : Slaw18_Small_2) : Option (Int × Machine) := limQ q (fun s => (Wlaw18_Small_2 s).run) s
theorem leLlaw18_Small_2 (k : Nat) (s : Slaw18_Small_2) : Le (Llaw18_Small_2 (some k) s) (Llaw18_Small_2 none s) := limQ_le (fun _ => Le.rfl) s
noncomputable def Tlaw18_Small (q : Option Nat) (x0 : Machine) : Tree Bool :=
  .opt (Int × Machine) (Llaw18_Small_0 q (Slaw18_Small_0.mk (0 : Int) (0 : Int) x0)) fun l2 =>
    .opt (Int × Machine) (Llaw18_Small_1 q (Slaw18_Small_1.mk l2.1 (0 : Int) l2.2)) fun l4 =>
      .opt (Int × Machine) (Llaw18_Small_2 q (Slaw18_Small_2.mk l4.1 (0 : Int) l4.2)) fun l6 =>
        .ite (decide (l6.1 ≤ (60000 : Int)))
          (.ite (decide ((l6.2.mem.length : Int) ≤ (2048 : Int)))
            (.ite (decide ((l6.2.bad.length : Int) ≤ (64 : Int)))
              (.ite (decide ((l6.2.lines.length : Int) ≤ (8 : Int)))
                (.ite (decide ((l6.2.disk.drive.sectors.length : Int) ≤ (256 : Int)))
                  (.ite (decide ((l6.2.disk.drive.bad.length : Int) ≤ (256 : Int)))
                    (.leaf (decide ((l6.2.tape.records.length : Int) ≤ (70 : Int))))
                    (.leaf (false)))
                  (.leaf (false)))
                (.leaf (false)))
              (.leaf (false)))
            (.leaf (false)))
          (.leaf (false))
noncomputable def law18_Small (q : Option Nat) (x0 : Machine) : Option Bool := (Tlaw18_Small q x0).run
theorem lelaw18_Small (k : Nat) (x0 : Machine) : Le (law18_Small (some k) x0) (law18_Small none x0) := (TLe.opt (leLlaw18_Small_0 k _) fun _ => (TLe.opt (leLlaw18_Small_1 k _) fun _ => (TLe.opt (leLlaw18_Small_2 k _) fun _ => TLe.rfl)))
noncomputable def Alaw18_Small : Arg U (Machine × Unit) := aA cMachine (aNil)
noncomputable def Rlaw18_Small (r : Bool) : List (V U) × List (Blk U) := ([vO cBool r], [])
noncomputable def Slaw18_Small : List (V U) → List (Blk U) → Option (FnOut U) := mkSpec Alaw18_Small bNil (fun x _ => law18_Small none x.1) Rlaw18_Small
noncomputable def Plaw18_Small_0 (x : (Unit) × (Int × Unit) × (Int × Unit) × Unit) (g : (Machine × Unit) × Unit) : Slaw18_Small_0 := Slaw18_Small_0.mk x.2.1.1 x.2.2.1.1 g.1.1
noncomputable def tAlaw18_Small_0 : Tms U ((Unit) × (Int × Unit) × (Int × Unit) × Unit) := tO 1 (cK (.ptr 0 0) (cUnit)) (tO 3 (cPair (cInt .i64) (cUnit)) (tO 4 (cPair (cInt .i64) (cUnit)) (tNil)))
noncomputable def tBlaw18_Small_0 : Bls U ((Machine × Unit) × Unit) := bC (cPair cMachine (cUnit)) (bNil)
noncomputable def eSlaw18_Small_0 (s : Slaw18_Small_0) : St U := { tm := [(1, .v (vO (cK (.ptr 0 0) (cUnit)) (()))), (3, .v (vO (cPair (cInt .i64) (cUnit)) (s.t3, ()))), (4, .v (vO (cPair (cInt .i64) (cUnit)) (s.t4, ())))], hp := [.cells ((cPair cMachine (cUnit) : Cdc U (Machine × Unit)).enc (s.b0, ()))] }
noncomputable def xSlaw18_Small_0 (r : (Int × Machine)) : Ex × St U := (.exit 0, { tm := [(1, .v (vO (cK (.ptr 0 0) (cUnit)) (()))), (3, .v (vO (cPair (cInt .i64) (cUnit)) (r.1, ())))], hp := [.cells ((cPair cMachine (cUnit) : Cdc U (Machine × Unit)).enc (r.2, ()))] })
noncomputable def xTlaw18_Small_0 (r : (Int × Machine)) : Tree (Ex × St U) := .leaf (xSlaw18_Small_0 r)
noncomputable def hlaw18_Small_0 : Hd := { keep := [1, 3, 4], xkeep := [1, 2, 3], own := false }
noncomputable def Plaw18_Small_1 (x : (Unit) × (Int × Unit) × (Int × Unit) × Unit) (g : (Machine × Unit) × Unit) : Slaw18_Small_1 := Slaw18_Small_1.mk x.2.1.1 x.2.2.1.1 g.1.1
noncomputable def tAlaw18_Small_1 : Tms U ((Unit) × (Int × Unit) × (Int × Unit) × Unit) := tO 1 (cK (.ptr 0 0) (cUnit)) (tO 3 (cPair (cInt .i64) (cUnit)) (tO 5 (cPair (cInt .i64) (cUnit)) (tNil)))
noncomputable def tBlaw18_Small_1 : Bls U ((Machine × Unit) × Unit) := bC (cPair cMachine (cUnit)) (bNil)
noncomputable def eSlaw18_Small_1 (s : Slaw18_Small_1) : St U := { tm := [(1, .v (vO (cK (.ptr 0 0) (cUnit)) (()))), (3, .v (vO (cPair (cInt .i64) (cUnit)) (s.t3, ()))), (5, .v (vO (cPair (cInt .i64) (cUnit)) (s.t5, ())))], hp := [.cells ((cPair cMachine (cUnit) : Cdc U (Machine × Unit)).enc (s.b0, ()))] }
noncomputable def xSlaw18_Small_1 (r : (Int × Machine)) : Ex × St U := (.exit 2, { tm := [(1, .v (vO (cK (.ptr 0 0) (cUnit)) (()))), (3, .v (vO (cPair (cInt .i64) (cUnit)) (r.1, ())))], hp := [.cells ((cPair cMachine (cUnit) : Cdc U (Machine × Unit)).enc (r.2, ()))] })
noncomputable def xTlaw18_Small_1 (r : (Int × Machine)) : Tree (Ex × St U) := .leaf (xSlaw18_Small_1 r)
noncomputable def hlaw18_Small_1 : Hd := { keep := [1, 3, 5], xkeep := [1, 2, 3], own := false }
noncomputable def Plaw18_Small_2 (x : (Unit) × (Int × Unit) × (Int × Unit) × Unit) (g : (Machine × Unit) × Unit) : Slaw18_Small_2 := Slaw18_Small_2.mk x.2.1.1 x.2.2.1.1 g.1.1
noncomputable def tAlaw18_Small_2 : Tms U ((Unit) × (Int × Unit) × (Int × Unit) × Unit) := tO 1 (cK (.ptr 0 0) (cUnit)) (tO 3 (cPair (cInt .i64) (cUnit)) (tO 6 (cPair (cInt .i64) (cUnit)) (tNil)))
noncomputable def tBlaw18_Small_2 : Bls U ((Machine × Unit) × Unit) := bC (cPair cMachine (cUnit)) (bNil)
noncomputable def eSlaw18_Small_2 (s : Slaw18_Small_2) : St U := { tm := [(1, .v (vO (cK (.ptr 0 0) (cUnit)) (()))), (3, .v (vO (cPair (cInt .i64) (cUnit)) (s.t3, ()))), (6, .v (vO (cPair (cInt .i64) (cUnit)) (s.t6, ())))], hp := [.cells ((cPair cMachine (cUnit) : Cdc U (Machine × Unit)).enc (s.b0, ()))] }
noncomputable def xSlaw18_Small_2 (r : (Int × Machine)) : Ex × St U := (.exit 4, { tm := [(1, .v (vO (cK (.ptr 0 0) (cUnit)) (()))), (3, .v (vO (cPair (cInt .i64) (cUnit)) (r.1, ())))], hp := [.cells ((cPair cMachine (cUnit) : Cdc U (Machine × Unit)).enc (r.2, ()))] })
noncomputable def xTlaw18_Small_2 (r : (Int × Machine)) : Tree (Ex × St U) := .leaf (xSlaw18_Small_2 r)
noncomputable def hlaw18_Small_2 : Hd := { keep := [1, 3, 6], xkeep := [1, 2, 3], own := false }
noncomputable def Elaw18_Small : Env U := { P := Try.prog, cd := cd, fns := noF, lps := (addL 0 hlaw18_Small_0 (mkLoop tAlaw18_Small_0 tBlaw18_Small_0 Plaw18_Small_0 (Llaw18_Small_0 none) xTlaw18_Small_0) (addL 1 hlaw18_Small_1 (mkLoop tAlaw18_Small_1 tBlaw18_Small_1 Plaw18_Small_1 (Llaw18_Small_1 none) xTlaw18_Small_1) (addL 2 hlaw18_Small_2 (mkLoop tAlaw18_Small_2 tBlaw18_Small_2 Plaw18_Small_2 (Llaw18_Small_2 none) xTlaw18_Small_2) noL))), frz := fun _r => false, nt := 117, n0 := 0 }
noncomputable def Blaw18_Small_0 : Code := (loopAt (Try.f18.body.getD .skip) 0 0).getD .skip
theorem roundlaw18_Small_0 (s : Slaw18_Small_0) : round Elaw18_Small hlaw18_Small_0 Blaw18_Small_0 0 (eSlaw18_Small_0 s) = (Wlaw18_Small_0 s).map (sumE eSlaw18_Small_0 xSlaw18_Small_0) := by kernel_rfl
theorem lplaw18_Small_0 : LpOk Elaw18_Small Blaw18_Small_0 0 := mkLoop_ok (A := tAlaw18_Small_0) (B := tBlaw18_Small_0) (f := Plaw18_Small_0) (L := Llaw18_Small_0 none) (tO_ok (cK_ok cUnit_ok) (tO_ok (cPair_ok (cInt_ok .i64) cUnit_ok) (tO_ok (cPair_ok (cInt_ok .i64) cUnit_ok) tNil_ok))) (bC_ok (cPair_ok cMachine_ok cUnit_ok) bNil_ok) (enc := eSlaw18_Small_0) (out := xTlaw18_Small_0) (outS := xSlaw18_Small_0) (step := Wlaw18_Small_0) (fun _ => rfl) (fun _ _ => by kernel_rfl) (by kernel_rfl) (fun _ => rfl) roundlaw18_Small_0
noncomputable def Blaw18_Small_1 : Code := (loopAt (Try.f18.body.getD .skip) 0 1).getD .skip
theorem roundlaw18_Small_1 (s : Slaw18_Small_1) : round Elaw18_Small hlaw18_Small_1 Blaw18_Small_1 1 (eSlaw18_Small_1 s) = (Wlaw18_Small_1 s).map (sumE eSlaw18_Small_1 xSlaw18_Small_1) := by kernel_rfl
theorem lplaw18_Small_1 : LpOk Elaw18_Small Blaw18_Small_1 1 := mkLoop_ok (A := tAlaw18_Small_1) (B := tBlaw18_Small_1) (f := Plaw18_Small_1) (L := Llaw18_Small_1 none) (tO_ok (cK_ok cUnit_ok) (tO_ok (cPair_ok (cInt_ok .i64) cUnit_ok) (tO_ok (cPair_ok (cInt_ok .i64) cUnit_ok) tNil_ok))) (bC_ok (cPair_ok cMachine_ok cUnit_ok) bNil_ok) (enc := eSlaw18_Small_1) (out := xTlaw18_Small_1) (outS := xSlaw18_Small_1) (step := Wlaw18_Small_1) (fun _ => rfl) (fun _ _ => by kernel_rfl) (by kernel_rfl) (fun _ => rfl) roundlaw18_Small_1
noncomputable def Blaw18_Small_2 : Code := (loopAt (Try.f18.body.getD .skip) 0 2).getD .skip
theorem roundlaw18_Small_2 (s : Slaw18_Small_2) : round Elaw18_Small hlaw18_Small_2 Blaw18_Small_2 2 (eSlaw18_Small_2 s) = (Wlaw18_Small_2 s).map (sumE eSlaw18_Small_2 xSlaw18_Small_2) := by kernel_rfl
theorem lplaw18_Small_2 : LpOk Elaw18_Small Blaw18_Small_2 2 := mkLoop_ok (A := tAlaw18_Small_2) (B := tBlaw18_Small_2) (f := Plaw18_Small_2) (L := Llaw18_Small_2 none) (tO_ok (cK_ok cUnit_ok) (tO_ok (cPair_ok (cInt_ok .i64) cUnit_ok) (tO_ok (cPair_ok (cInt_ok .i64) cUnit_ok) tNil_ok))) (bC_ok (cPair_ok cMachine_ok cUnit_ok) bNil_ok) (enc := eSlaw18_Small_2) (out := xTlaw18_Small_2) (outS := xSlaw18_Small_2) (step := Wlaw18_Small_2) (fun _ => rfl) (fun _ _ => by kernel_rfl) (by kernel_rfl) (fun _ => rfl) roundlaw18_Small_2
theorem runlaw18_Small (x : Machine × Unit) (g : Unit) : execF Elaw18_Small Try.f18 (Alaw18_Small.enc x) (bNil.enc g) = (Tlaw18_Small none x.1).map Rlaw18_Small := by kernel_rfl
theorem oklaw18_Small : FnOk Try.prog cd 18 Slaw18_Small := mk_ok (E := Elaw18_Small) cd_ok noF_ok Try.func18 (by kernel_rfl) (loops_of (addL_ok lplaw18_Small_0 (addL_ok lplaw18_Small_1 (addL_ok lplaw18_Small_2 noL_ok)))) (aA_ok cMachine_ok (aNil_ok)) bNil_ok (T := fun x _ => Tlaw18_Small none x.1) (fun _ _ => rfl) runlaw18_Small
noncomputable def fns18 := addF 18 true Slaw18_Small noF
theorem fns18_ok : ∀ f q t, fns18 f = some (q, t) → FnOk Try.prog cd f t := addF_ok oklaw18_Small noF_ok
/-- emulator/emulatorref14.Right -/
noncomputable def Tref14_Right (x0 : Line) : Tree Bool :=
  .ite (decide (x0.rxData < (0 : Int)))
    (.leaf (false))
    (.ite (decide ((255 : Int) < x0.rxData))
      (.leaf (false))
      (.ite (decide (x0.txData < (0 : Int)))
        (.leaf (false))
        (.ite (decide ((255 : Int) < x0.txData))
          (.leaf (false))
          (.ite (decide ((4096 : Int) < (x0.out.length : Int)))
            (.leaf (false))
            (.ite (decide ((0 : Int) ≤ x0.txLeft))
              (.ite (decide (x0.txLeft ≤ (4 : Int)))
                (.leaf ((x0.txReady == (decide (x0.txLeft = (0 : Int))))))
                (.leaf (false)))
              (.leaf (false)))))))
noncomputable def ref14_Right (x0 : Line) : Option Bool := (Tref14_Right x0).run
noncomputable def Aref14_Right : Arg U (Line × Unit) := aA cLine (aNil)
noncomputable def Rref14_Right (r : Bool) : List (V U) × List (Blk U) := ([vO cBool r], [])
noncomputable def Sref14_Right : List (V U) → List (Blk U) → Option (FnOut U) := mkSpec Aref14_Right bNil (fun x _ => ref14_Right x.1) Rref14_Right
noncomputable def Eref14_Right : Env U := { P := Try.prog, cd := cd, fns := fns18, lps := noL, frz := fun _r => false, nt := 43, n0 := 0 }
theorem runref14_Right (x : Line × Unit) (g : Unit) : execF Eref14_Right Try.f65 (Aref14_Right.enc x) (bNil.enc g) = (Tref14_Right x.1).map Rref14_Right := by kernel_rfl
theorem okref14_Right : FnOk Try.prog cd 65 Sref14_Right := mk_ok (E := Eref14_Right) cd_ok fns18_ok Try.func65 (by kernel_rfl) (noLoops_body (by kernel_rfl)) (aA_ok cLine_ok (aNil_ok)) bNil_ok (T := fun x _ => Tref14_Right x.1) (fun _ _ => rfl) runref14_Right
noncomputable def fns65 := addF 65 true Sref14_Right fns18
theorem fns65_ok : ∀ f q t, fns65 f = some (q, t) → FnOk Try.prog cd f t := addF_ok okref14_Right fns18_ok
/-- emulator/emulatorref08.Size -/
noncomputable def Tref08_Size (x0 : Int) : Tree Bool :=
  .ite (decide ((256 : Int) ≤ x0))
    (.ite (decide (x0 ≤ (32768 : Int)))
      (.ite (decide ((64 : Int) = 0))
        .fail
        (.leaf (decide (((x0).tmod (64 : Int)) = (0 : Int)))))
      (.leaf (false)))
    (.leaf (false))
noncomputable def ref08_Size (x0 : Int) : Option Bool := (Tref08_Size x0).run
noncomputable def Aref08_Size : Arg U (Int × Unit) := aO (cInt .i64) (aNil)
noncomputable def Rref08_Size (r : Bool) : List (V U) × List (Blk U) := ([vO cBool r], [])
noncomputable def Sref08_Size : List (V U) → List (Blk U) → Option (FnOut U) := mkSpec Aref08_Size bNil (fun x _ => ref08_Size x.1) Rref08_Size
noncomputable def Eref08_Size : Env U := { P := Try.prog, cd := cd, fns := fns65, lps := noL, frz := fun _r => false, nt := 14, n0 := 0 }
theorem runref08_Size (x : Int × Unit) (g : Unit) : execF Eref08_Size Try.f85 (Aref08_Size.enc x) (bNil.enc g) = (Tref08_Size x.1).map Rref08_Size := by kernel_rfl
theorem okref08_Size : FnOk Try.prog cd 85 Sref08_Size := mk_ok (E := Eref08_Size) cd_ok fns65_ok Try.func85 (by kernel_rfl) (noLoops_body (by kernel_rfl)) (aO_ok (cInt_ok .i64) (aNil_ok)) bNil_ok (T := fun x _ => Tref08_Size x.1) (fun _ _ => rfl) runref08_Size
noncomputable def fns85 := addF 85 true Sref08_Size fns65
theorem fns85_ok : ∀ f q t, fns85 f = some (q, t) → FnOk Try.prog cd f t := addF_ok okref08_Size fns65_ok
/-- emulator/emulatorref08.Right -/
structure Sref08_Right_0 where
  t0 : (List Int)
  t1 : (List Int)
  t5 : Int
noncomputable def Wref08_Right_0 (s : Sref08_Right_0) : Tree (Sref08_Right_0 ⊕ (((List Int) × (List Int) × Bool) ⊕ ((List Int) × (List Int)))) :=
  .ite (decide (s.t5 < (s.t0.length : Int)))
    (.ite (decide (0 ≤ s.t5))
      (.opt Int (s.t0[(s.t5).toNat]?) fun y8 =>
        .ite (decide (y8 < (0 : Int)))
          (.leaf (.inr (.inl (s.t0, s.t1, false))))
          (.ite (decide (0 ≤ s.t5))
            (.opt Int (s.t0[(s.t5).toNat]?) fun y9 =>
              .ite (decide ((65535 : Int) < y9))
                (.leaf (.inr (.inl (s.t0, s.t1, false))))
                (.leaf (.inl (Sref08_Right_0.mk s.t0 s.t1 (IntKind.wrap .i64 (s.t5 + (1 : Int)))))))
            .fail))
      .fail)
    (.leaf (.inr (.inr (s.t0, s.t1))))
noncomputable def Lref08_Right_0 (q : Option Nat) (s : Sref08_Right_0) : Option (((List Int) × (List Int) × Bool) ⊕ ((List Int) × (List Int))) := limQ q (fun s => (Wref08_Right_0 s).run) s
theorem leLref08_Right_0 (k : Nat) (s : Sref08_Right_0) : Le (Lref08_Right_0 (some k) s) (Lref08_Right_0 none s) := limQ_le (fun _ => Le.rfl) s
structure Sref08_Right_1 where
  t0 : (List Int)
  t1 : (List Int)
  t6 : Int
noncomputable def Wref08_Right_1 (s : Sref08_Right_1) : Tree (Sref08_Right_1 ⊕ (Bool ⊕ Unit)) :=
  .ite (decide (s.t6 < (s.t1.length : Int)))
    (.ite (decide (0 ≤ s.t6))
      (.opt Int (s.t1[(s.t6).toNat]?) fun y13 =>
        .ite (decide (y13 < (0 : Int)))
          (.leaf (.inr (.inl false)))
          (.ite (decide (0 ≤ s.t6))
            (.opt Int (s.t1[(s.t6).toNat]?) fun y14 =>
              .ite (decide ((IntKind.wrap .i64 ((2 : Int) * (s.t0.length : Int))) ≤ y14))
                (.leaf (.inr (.inl false)))
                (.ite (decide (0 ≤ s.t6))
                  (.opt Int (s.t1[(s.t6).toNat]?) fun y15 =>
                    .ite (decide ((2 : Int) = 0))
                      .fail
                      (.ite (!decide (((y15).tmod (2 : Int)) = (0 : Int)))
                        (.leaf (.inr (.inl false)))
                        (.ite (decide ((0 : Int) < s.t6))
                          (.ite (decide (0 ≤ s.t6))
                            (.opt Int (s.t1[(s.t6).toNat]?) fun y16 =>
                              .ite (decide (0 ≤ IntKind.wrap .i64 (s.t6 - (1 : Int))))
                                (.opt Int (s.t1[(IntKind.wrap .i64 (s.t6 - (1 : Int))).toNat]?) fun y17 =>
                                  .ite (decide (y16 ≤ y17))
                                    (.leaf (.inr (.inl false)))
                                    (.leaf (.inl (Sref08_Right_1.mk s.t0 s.t1 (IntKind.wrap .i64 (s.t6 + (1 : Int)))))))
                                .fail)
                            .fail)
                          (.leaf (.inl (Sref08_Right_1.mk s.t0 s.t1 (IntKind.wrap .i64 (s.t6 + (1 : Int)))))))))
                  .fail))
            .fail))
      .fail)
    (.leaf (.inr (.inr ())))
noncomputable def Lref08_Right_1 (q : Option Nat) (s : Sref08_Right_1) : Option (Bool ⊕ Unit) := limQ q (fun s => (Wref08_Right_1 s).run) s
theorem leLref08_Right_1 (k : Nat) (s : Sref08_Right_1) : Le (Lref08_Right_1 (some k) s) (Lref08_Right_1 none s) := limQ_le (fun _ => Le.rfl) s
noncomputable def Tref08_Right (q : Option Nat) (x0 : (List Int)) (x1 : (List Int)) : Tree Bool :=
  .opt Bool (ref08_Size (IntKind.wrap .i64 ((2 : Int) * (x0.length : Int)))) fun r7 =>
    .ite (!r7)
      (.leaf (false))
      (.opt (((List Int) × (List Int) × Bool) ⊕ ((List Int) × (List Int))) (Lref08_Right_0 q (Sref08_Right_0.mk x0 x1 (0 : Int))) fun l10 =>
        .ite (l10.isLeft)
          (.opt ((List Int) × (List Int) × Bool) (l10.getLeft?) fun a11 =>
            .leaf (a11.2.2))
          (.opt ((List Int) × (List Int)) (l10.getRight?) fun b12 =>
            .opt (Bool ⊕ Unit) (Lref08_Right_1 q (Sref08_Right_1.mk b12.1 b12.2 (0 : Int))) fun l18 =>
              .ite (l18.isLeft)
                (.opt Bool (l18.getLeft?) fun a19 =>
                  .leaf (a19))
                (.opt Unit (l18.getRight?) fun b20 =>
                  .leaf (true))))
noncomputable def ref08_Right (q : Option Nat) (x0 : (List Int)) (x1 : (List Int)) : Option Bool := (Tref08_Right q x0 x1).run
theorem leref08_Right (k : Nat) (x0 : (List Int)) (x1 : (List Int)) : Le (ref08_Right (some k) x0 x1) (ref08_Right none x0 x1) := (TLe.opt Le.rfl fun _ => (TLe.ite TLe.rfl (TLe.opt (leLref08_Right_0 k _) fun _ => (TLe.ite TLe.rfl (TLe.opt Le.rfl fun _ => (TLe.opt (leLref08_Right_1 k _) fun _ => TLe.rfl))))))
noncomputable def Aref08_Right : Arg U ((List Int) × (List Int) × Unit) := aO (cSl 3) (aO (cSl 3) (aNil))
noncomputable def Rref08_Right (r : Bool) : List (V U) × List (Blk U) := ([vO cBool r], [])
noncomputable def Sref08_Right : List (V U) → List (Blk U) → Option (FnOut U) := mkSpec Aref08_Right bNil (fun x _ => ref08_Right none x.1 x.2.1) Rref08_Right
noncomputable def Pref08_Right_0 (x : ((List Int) × Unit) × ((List Int) × Unit) × (Int × Unit) × Unit) (_g : Unit) : Sref08_Right_0 := Sref08_Right_0.mk x.1.1 x.2.1.1 x.2.2.1.1
noncomputable def tAref08_Right_0 : Tms U (((List Int) × Unit) × ((List Int) × Unit) × (Int × Unit) × Unit) := tO 0 (cPair (cSl 3) (cUnit)) (tO 1 (cPair (cSl 3) (cUnit)) (tO 5 (cPair (cInt .i64) (cUnit)) (tNil)))
noncomputable def tBref08_Right_0 : Bls U (Unit) := bNil
noncomputable def eSref08_Right_0 (s : Sref08_Right_0) : St U := { tm := [(0, .v (vO (cPair (cSl 3) (cUnit)) (s.t0, ()))), (1, .v (vO (cPair (cSl 3) (cUnit)) (s.t1, ()))), (5, .v (vO (cPair (cInt .i64) (cUnit)) (s.t5, ())))], hp := [] }
noncomputable def xSref08_Right_0 : (((List Int) × (List Int) × Bool) ⊕ ((List Int) × (List Int))) → Ex × St U
  | .inl r => (.ret, { tm := [(0, .v (vO (cPair (cSl 3) (cUnit)) (r.1, ()))), (1, .v (vO (cPair (cSl 3) (cUnit)) (r.2.1, ()))), (4, .v (vO (cPair cBool (cUnit)) (r.2.2, ())))], hp := [] })
  | .inr r => (.exit 0, { tm := [(0, .v (vO (cPair (cSl 3) (cUnit)) (r.1, ()))), (1, .v (vO (cPair (cSl 3) (cUnit)) (r.2, ())))], hp := [] })
noncomputable def xTref08_Right_0 (y : (((List Int) × (List Int) × Bool) ⊕ ((List Int) × (List Int)))) : Tree (Ex × St U) := .ite y.isLeft (.opt ((List Int) × (List Int) × Bool) y.getLeft? fun r => .leaf (.ret, { tm := [(0, .v (vO (cPair (cSl 3) (cUnit)) (r.1, ()))), (1, .v (vO (cPair (cSl 3) (cUnit)) (r.2.1, ()))), (4, .v (vO (cPair cBool (cUnit)) (r.2.2, ())))], hp := [] })) (.opt ((List Int) × (List Int)) y.getRight? fun r => .leaf (.exit 0, { tm := [(0, .v (vO (cPair (cSl 3) (cUnit)) (r.1, ()))), (1, .v (vO (cPair (cSl 3) (cUnit)) (r.2, ())))], hp := [] }))
noncomputable def href08_Right_0 : Hd := { keep := [0, 1, 5], xkeep := [0, 1, 4], own := false }
noncomputable def Pref08_Right_1 (x : ((List Int) × Unit) × ((List Int) × Unit) × (Int × Unit) × Unit) (_g : Unit) : Sref08_Right_1 := Sref08_Right_1.mk x.1.1 x.2.1.1 x.2.2.1.1
noncomputable def tAref08_Right_1 : Tms U (((List Int) × Unit) × ((List Int) × Unit) × (Int × Unit) × Unit) := tO 0 (cPair (cSl 3) (cUnit)) (tO 1 (cPair (cSl 3) (cUnit)) (tO 6 (cPair (cInt .i64) (cUnit)) (tNil)))
noncomputable def tBref08_Right_1 : Bls U (Unit) := bNil
noncomputable def eSref08_Right_1 (s : Sref08_Right_1) : St U := { tm := [(0, .v (vO (cPair (cSl 3) (cUnit)) (s.t0, ()))), (1, .v (vO (cPair (cSl 3) (cUnit)) (s.t1, ()))), (6, .v (vO (cPair (cInt .i64) (cUnit)) (s.t6, ())))], hp := [] }
noncomputable def xSref08_Right_1 : (Bool ⊕ Unit) → Ex × St U
  | .inl r => (.ret, { tm := [(4, .v (vO (cPair cBool (cUnit)) (r, ())))], hp := [] })
  | .inr r => (.exit 2, { tm := [], hp := [] })
noncomputable def xTref08_Right_1 (y : (Bool ⊕ Unit)) : Tree (Ex × St U) := .ite y.isLeft (.opt Bool y.getLeft? fun r => .leaf (.ret, { tm := [(4, .v (vO (cPair cBool (cUnit)) (r, ())))], hp := [] })) (.opt Unit y.getRight? fun r => .leaf (.exit 2, { tm := [], hp := [] }))
noncomputable def href08_Right_1 : Hd := { keep := [0, 1, 6], xkeep := [4], own := false }
noncomputable def Eref08_Right : Env U := { P := Try.prog, cd := cd, fns := fns85, lps := (addL 0 href08_Right_0 (mkLoop tAref08_Right_0 tBref08_Right_0 Pref08_Right_0 (Lref08_Right_0 none) xTref08_Right_0) (addL 1 href08_Right_1 (mkLoop tAref08_Right_1 tBref08_Right_1 Pref08_Right_1 (Lref08_Right_1 none) xTref08_Right_1) noL)), frz := fun _r => false, nt := 75, n0 := 0 }
noncomputable def Bref08_Right_0 : Code := (loopAt (Try.f66.body.getD .skip) 0 0).getD .skip
theorem roundref08_Right_0 (s : Sref08_Right_0) : round Eref08_Right href08_Right_0 Bref08_Right_0 0 (eSref08_Right_0 s) = (Wref08_Right_0 s).map (sumE eSref08_Right_0 xSref08_Right_0) := by kernel_rfl
theorem lpref08_Right_0 : LpOk Eref08_Right Bref08_Right_0 0 := mkLoop_ok (A := tAref08_Right_0) (B := tBref08_Right_0) (f := Pref08_Right_0) (L := Lref08_Right_0 none) (tO_ok (cPair_ok (cSl_ok 3) cUnit_ok) (tO_ok (cPair_ok (cSl_ok 3) cUnit_ok) (tO_ok (cPair_ok (cInt_ok .i64) cUnit_ok) tNil_ok))) bNil_ok (enc := eSref08_Right_0) (out := xTref08_Right_0) (outS := xSref08_Right_0) (step := Wref08_Right_0) (fun _ => rfl) (fun _ _ => by kernel_rfl) (by kernel_rfl) (fun b => by cases b <;> rfl) roundref08_Right_0
noncomputable def Bref08_Right_1 : Code := (loopAt (Try.f66.body.getD .skip) 0 1).getD .skip
theorem roundref08_Right_1 (s : Sref08_Right_1) : round Eref08_Right href08_Right_1 Bref08_Right_1 1 (eSref08_Right_1 s) = (Wref08_Right_1 s).map (sumE eSref08_Right_1 xSref08_Right_1) := by kernel_rfl
theorem lpref08_Right_1 : LpOk Eref08_Right Bref08_Right_1 1 := mkLoop_ok (A := tAref08_Right_1) (B := tBref08_Right_1) (f := Pref08_Right_1) (L := Lref08_Right_1 none) (tO_ok (cPair_ok (cSl_ok 3) cUnit_ok) (tO_ok (cPair_ok (cSl_ok 3) cUnit_ok) (tO_ok (cPair_ok (cInt_ok .i64) cUnit_ok) tNil_ok))) bNil_ok (enc := eSref08_Right_1) (out := xTref08_Right_1) (outS := xSref08_Right_1) (step := Wref08_Right_1) (fun _ => rfl) (fun _ _ => by kernel_rfl) (by kernel_rfl) (fun b => by cases b <;> rfl) roundref08_Right_1
theorem runref08_Right (x : (List Int) × (List Int) × Unit) (g : Unit) : execF Eref08_Right Try.f66 (Aref08_Right.enc x) (bNil.enc g) = (Tref08_Right none x.1 x.2.1).map Rref08_Right := by kernel_rfl
theorem okref08_Right : FnOk Try.prog cd 66 Sref08_Right := mk_ok (E := Eref08_Right) cd_ok fns85_ok Try.func66 (by kernel_rfl) (loops_of (addL_ok lpref08_Right_0 (addL_ok lpref08_Right_1 noL_ok))) (aO_ok (cSl_ok 3) (aO_ok (cSl_ok 3) (aNil_ok))) bNil_ok (T := fun x _ => Tref08_Right none x.1 x.2.1) (fun _ _ => rfl) runref08_Right
noncomputable def fns66 := addF 66 true Sref08_Right fns85
theorem fns66_ok : ∀ f q t, fns66 f = some (q, t) → FnOk Try.prog cd f t := addF_ok okref08_Right fns85_ok
/-- emulator/emulatorref09.Right -/
structure Sref09_Right_1 where
  t3 : Int
  t4 : Int
  b0 : Mmu
noncomputable def Wref09_Right_1 (s : Sref09_Right_1) : Tree (Sref09_Right_1 ⊕ ((Bool × Int × Mmu) ⊕ (Int × Mmu))) :=
  .ite (decide (s.t4 < (8 : Int)))
    (.ite (decide (0 ≤ s.t3))
      (.ite (decide (s.t3 < (2 : Int)))
        (.ite (decide (0 ≤ s.t4))
          (.ite (decide (s.t4 < (8 : Int)))
            (.opt Page (s.b0.pages[(s.t3).toNat * 8 + (s.t4).toNat * 1]?) fun y21 =>
              .ite (decide (y21.base < (0 : Int)))
                (.leaf (.inr (.inl (false, s.t3, s.b0))))
                (.ite (decide ((4095 : Int) < y21.base))
                  (.leaf (.inr (.inl (false, s.t3, s.b0))))
                  (.ite (decide (y21.length < (0 : Int)))
                    (.leaf (.inr (.inl (false, s.t3, s.b0))))
                    (.ite (decide ((128 : Int) < y21.length))
                      (.leaf (.inr (.inl (false, s.t3, s.b0))))
                      (.ite (decide (y21.access < (0 : Int)))
                        (.leaf (.inr (.inl (false, s.t3, s.b0))))
                        (.ite (decide ((2 : Int) < y21.access))
                          (.leaf (.inr (.inl (false, s.t3, s.b0))))
                          (.leaf (.inl (Sref09_Right_1.mk s.t3 (IntKind.wrap .i64 (s.t4 + (1 : Int))) s.b0)))))))))
            .fail)
          .fail)
        .fail)
      .fail)
    (.leaf (.inr (.inr (s.t3, s.b0))))
noncomputable def Lref09_Right_1 (q : Option Nat) (s : Sref09_Right_1) : Option ((Bool × Int × Mmu) ⊕ (Int × Mmu)) := limQ q (fun s => (Wref09_Right_1 s).run) s
theorem leLref09_Right_1 (k : Nat) (s : Sref09_Right_1) : Le (Lref09_Right_1 (some k) s) (Lref09_Right_1 none s) := limQ_le (fun _ => Le.rfl) s
structure Sref09_Right_0 where
  t3 : Int
  b0 : Mmu
noncomputable def Wref09_Right_0 (q : Option Nat) (s : Sref09_Right_0) : Tree (Sref09_Right_0 ⊕ ((Bool × Mmu) ⊕ Mmu)) :=
  .ite (decide (s.t3 < (2 : Int)))
    (.opt ((Bool × Int × Mmu) ⊕ (Int × Mmu)) (Lref09_Right_1 q (Sref09_Right_1.mk s.t3 (0 : Int) s.b0)) fun l22 =>
      .ite (l22.isLeft)
        (.opt (Bool × Int × Mmu) (l22.getLeft?) fun a23 =>
          .leaf (.inr (.inl (a23.1, a23.2.2))))
        (.opt (Int × Mmu) (l22.getRight?) fun b24 =>
          .leaf (.inl (Sref09_Right_0.mk (IntKind.wrap .i64 (b24.1 + (1 : Int))) b24.2))))
    (.leaf (.inr (.inr s.b0)))
noncomputable def Lref09_Right_0 (q : Option Nat) (s : Sref09_Right_0) : Option ((Bool × Mmu) ⊕ Mmu) := limQ q (fun s => (Wref09_Right_0 q s).run) s
theorem leLref09_Right_0 (k : Nat) (s : Sref09_Right_0) : Le (Lref09_Right_0 (some k) s) (Lref09_Right_0 none s) := limQ_le (fun s => (TLe.ite (TLe.opt (leLref09_Right_1 k _) fun _ => TLe.rfl) TLe.rfl)) s
noncomputable def Tref09_Right (q : Option Nat) (x0 : Mmu) : Tree Bool :=
  .opt ((Bool × Mmu) ⊕ Mmu) (Lref09_Right_0 q (Sref09_Right_0.mk (0 : Int) x0)) fun l25 =>
    .ite (l25.isLeft)
      (.opt (Bool × Mmu) (l25.getLeft?) fun a26 =>
        .leaf (a26.1))
      (.opt Mmu (l25.getRight?) fun b27 =>
        .ite (decide ((0 : Int) ≤ b27.status))
          (.ite (decide (b27.status ≤ (3 : Int)))
            (.ite (decide ((0 : Int) ≤ b27.addr))
              (.leaf (decide (b27.addr < (65536 : Int))))
              (.leaf (false)))
            (.leaf (false)))
          (.leaf (false)))
noncomputable def ref09_Right (q : Option Nat) (x0 : Mmu) : Option Bool := (Tref09_Right q x0).run
theorem leref09_Right (k : Nat) (x0 : Mmu) : Le (ref09_Right (some k) x0) (ref09_Right none x0) := (TLe.opt (leLref09_Right_0 k _) fun _ => TLe.rfl)
noncomputable def Aref09_Right : Arg U (Mmu × Unit) := aA cMmu (aNil)
noncomputable def Rref09_Right (r : Bool) : List (V U) × List (Blk U) := ([vO cBool r], [])
noncomputable def Sref09_Right : List (V U) → List (Blk U) → Option (FnOut U) := mkSpec Aref09_Right bNil (fun x _ => ref09_Right none x.1) Rref09_Right
noncomputable def Pref09_Right_0 (x : (Unit) × (Int × Unit) × Unit) (g : (Mmu × Unit) × Unit) : Sref09_Right_0 := Sref09_Right_0.mk x.2.1.1 g.1.1
noncomputable def tAref09_Right_0 : Tms U ((Unit) × (Int × Unit) × Unit) := tO 1 (cK (.ptr 0 0) (cUnit)) (tO 3 (cPair (cInt .i64) (cUnit)) (tNil))
noncomputable def tBref09_Right_0 : Bls U ((Mmu × Unit) × Unit) := bC (cPair cMmu (cUnit)) (bNil)
noncomputable def eSref09_Right_0 (s : Sref09_Right_0) : St U := { tm := [(1, .v (vO (cK (.ptr 0 0) (cUnit)) (()))), (3, .v (vO (cPair (cInt .i64) (cUnit)) (s.t3, ())))], hp := [.cells ((cPair cMmu (cUnit) : Cdc U (Mmu × Unit)).enc (s.b0, ()))] }
noncomputable def xSref09_Right_0 : ((Bool × Mmu) ⊕ Mmu) → Ex × St U
  | .inl r => (.ret, { tm := [(1, .v (vO (cK (.ptr 0 0) (cUnit)) (()))), (2, .v (vO (cPair cBool (cUnit)) (r.1, ())))], hp := [.cells ((cPair cMmu (cUnit) : Cdc U (Mmu × Unit)).enc (r.2, ()))] })
  | .inr r => (.exit 0, { tm := [(1, .v (vO (cK (.ptr 0 0) (cUnit)) (())))], hp := [.cells ((cPair cMmu (cUnit) : Cdc U (Mmu × Unit)).enc (r, ()))] })
noncomputable def xTref09_Right_0 (y : ((Bool × Mmu) ⊕ Mmu)) : Tree (Ex × St U) := .ite y.isLeft (.opt (Bool × Mmu) y.getLeft? fun r => .leaf (.ret, { tm := [(1, .v (vO (cK (.ptr 0 0) (cUnit)) (()))), (2, .v (vO (cPair cBool (cUnit)) (r.1, ())))], hp := [.cells ((cPair cMmu (cUnit) : Cdc U (Mmu × Unit)).enc (r.2, ()))] })) (.opt Mmu y.getRight? fun r => .leaf (.exit 0, { tm := [(1, .v (vO (cK (.ptr 0 0) (cUnit)) (())))], hp := [.cells ((cPair cMmu (cUnit) : Cdc U (Mmu × Unit)).enc (r, ()))] }))
noncomputable def href09_Right_0 : Hd := { keep := [1, 3], xkeep := [1, 2], own := false }
noncomputable def Pref09_Right_1 (x : (Unit) × (Int × Unit) × (Int × Unit) × Unit) (g : (Mmu × Unit) × Unit) : Sref09_Right_1 := Sref09_Right_1.mk x.2.1.1 x.2.2.1.1 g.1.1
noncomputable def tAref09_Right_1 : Tms U ((Unit) × (Int × Unit) × (Int × Unit) × Unit) := tO 1 (cK (.ptr 0 0) (cUnit)) (tO 3 (cPair (cInt .i64) (cUnit)) (tO 4 (cPair (cInt .i64) (cUnit)) (tNil)))
noncomputable def tBref09_Right_1 : Bls U ((Mmu × Unit) × Unit) := bC (cPair cMmu (cUnit)) (bNil)
noncomputable def eSref09_Right_1 (s : Sref09_Right_1) : St U := { tm := [(1, .v (vO (cK (.ptr 0 0) (cUnit)) (()))), (3, .v (vO (cPair (cInt .i64) (cUnit)) (s.t3, ()))), (4, .v (vO (cPair (cInt .i64) (cUnit)) (s.t4, ())))], hp := [.cells ((cPair cMmu (cUnit) : Cdc U (Mmu × Unit)).enc (s.b0, ()))] }
noncomputable def xSref09_Right_1 : ((Bool × Int × Mmu) ⊕ (Int × Mmu)) → Ex × St U
  | .inl r => (.ret, { tm := [(1, .v (vO (cK (.ptr 0 0) (cUnit)) (()))), (2, .v (vO (cPair cBool (cUnit)) (r.1, ()))), (3, .v (vO (cPair (cInt .i64) (cUnit)) (r.2.1, ())))], hp := [.cells ((cPair cMmu (cUnit) : Cdc U (Mmu × Unit)).enc (r.2.2, ()))] })
  | .inr r => (.exit 2, { tm := [(1, .v (vO (cK (.ptr 0 0) (cUnit)) (()))), (3, .v (vO (cPair (cInt .i64) (cUnit)) (r.1, ())))], hp := [.cells ((cPair cMmu (cUnit) : Cdc U (Mmu × Unit)).enc (r.2, ()))] })
noncomputable def xTref09_Right_1 (y : ((Bool × Int × Mmu) ⊕ (Int × Mmu))) : Tree (Ex × St U) := .ite y.isLeft (.opt (Bool × Int × Mmu) y.getLeft? fun r => .leaf (.ret, { tm := [(1, .v (vO (cK (.ptr 0 0) (cUnit)) (()))), (2, .v (vO (cPair cBool (cUnit)) (r.1, ()))), (3, .v (vO (cPair (cInt .i64) (cUnit)) (r.2.1, ())))], hp := [.cells ((cPair cMmu (cUnit) : Cdc U (Mmu × Unit)).enc (r.2.2, ()))] })) (.opt (Int × Mmu) y.getRight? fun r => .leaf (.exit 2, { tm := [(1, .v (vO (cK (.ptr 0 0) (cUnit)) (()))), (3, .v (vO (cPair (cInt .i64) (cUnit)) (r.1, ())))], hp := [.cells ((cPair cMmu (cUnit) : Cdc U (Mmu × Unit)).enc (r.2, ()))] }))
noncomputable def href09_Right_1 : Hd := { keep := [1, 3, 4], xkeep := [1, 2, 3], own := false }
noncomputable def Eref09_Right : Env U := { P := Try.prog, cd := cd, fns := fns66, lps := (addL 0 href09_Right_0 (mkLoop tAref09_Right_0 tBref09_Right_0 Pref09_Right_0 (Lref09_Right_0 none) xTref09_Right_0) (addL 1 href09_Right_1 (mkLoop tAref09_Right_1 tBref09_Right_1 Pref09_Right_1 (Lref09_Right_1 none) xTref09_Right_1) noL)), frz := fun _r => false, nt := 66, n0 := 0 }
noncomputable def Bref09_Right_0 : Code := (loopAt (Try.f67.body.getD .skip) 0 0).getD .skip
theorem roundref09_Right_0 (s : Sref09_Right_0) : round Eref09_Right href09_Right_0 Bref09_Right_0 0 (eSref09_Right_0 s) = (Wref09_Right_0 none s).map (sumE eSref09_Right_0 xSref09_Right_0) := by kernel_rfl
theorem lpref09_Right_0 : LpOk Eref09_Right Bref09_Right_0 0 := mkLoop_ok (A := tAref09_Right_0) (B := tBref09_Right_0) (f := Pref09_Right_0) (L := Lref09_Right_0 none) (tO_ok (cK_ok cUnit_ok) (tO_ok (cPair_ok (cInt_ok .i64) cUnit_ok) tNil_ok)) (bC_ok (cPair_ok cMmu_ok cUnit_ok) bNil_ok) (enc := eSref09_Right_0) (out := xTref09_Right_0) (outS := xSref09_Right_0) (step := Wref09_Right_0 none) (fun _ => rfl) (fun _ _ => by kernel_rfl) (by kernel_rfl) (fun b => by cases b <;> rfl) roundref09_Right_0
noncomputable def Bref09_Right_1 : Code := (loopAt (Try.f67.body.getD .skip) 0 1).getD .skip
theorem roundref09_Right_1 (s : Sref09_Right_1) : round Eref09_Right href09_Right_1 Bref09_Right_1 1 (eSref09_Right_1 s) = (Wref09_Right_1 s).map (sumE eSref09_Right_1 xSref09_Right_1) := by kernel_rfl
theorem lpref09_Right_1 : LpOk Eref09_Right Bref09_Right_1 1 := mkLoop_ok (A := tAref09_Right_1) (B := tBref09_Right_1) (f := Pref09_Right_1) (L := Lref09_Right_1 none) (tO_ok (cK_ok cUnit_ok) (tO_ok (cPair_ok (cInt_ok .i64) cUnit_ok) (tO_ok (cPair_ok (cInt_ok .i64) cUnit_ok) tNil_ok))) (bC_ok (cPair_ok cMmu_ok cUnit_ok) bNil_ok) (enc := eSref09_Right_1) (out := xTref09_Right_1) (outS := xSref09_Right_1) (step := Wref09_Right_1) (fun _ => rfl) (fun _ _ => by kernel_rfl) (by kernel_rfl) (fun b => by cases b <;> rfl) roundref09_Right_1
theorem runref09_Right (x : Mmu × Unit) (g : Unit) : execF Eref09_Right Try.f67 (Aref09_Right.enc x) (bNil.enc g) = (Tref09_Right none x.1).map Rref09_Right := by kernel_rfl
theorem okref09_Right : FnOk Try.prog cd 67 Sref09_Right := mk_ok (E := Eref09_Right) cd_ok fns66_ok Try.func67 (by kernel_rfl) (loops_of (addL_ok lpref09_Right_0 (addL_ok lpref09_Right_1 noL_ok))) (aA_ok cMmu_ok (aNil_ok)) bNil_ok (T := fun x _ => Tref09_Right none x.1) (fun _ _ => rfl) runref09_Right
noncomputable def fns67 := addF 67 true Sref09_Right fns66
theorem fns67_ok : ∀ f q t, fns67 f = some (q, t) → FnOk Try.prog cd f t := addF_ok okref09_Right fns66_ok
/-- emulator/emulatorref13.Right -/
noncomputable def Tref13_Right (x0 : Clock) : Tree Bool :=
  .ite (decide ((1 : Int) ≤ x0.period))
    (.ite (decide (x0.period ≤ (65535 : Int)))
      (.ite (decide ((1 : Int) ≤ x0.left))
        (.leaf (decide (x0.left ≤ x0.period)))
        (.leaf (false)))
      (.leaf (false)))
    (.leaf (false))
noncomputable def ref13_Right (x0 : Clock) : Option Bool := (Tref13_Right x0).run
noncomputable def Aref13_Right : Arg U (Clock × Unit) := aA cClock (aNil)
noncomputable def Rref13_Right (r : Bool) : List (V U) × List (Blk U) := ([vO cBool r], [])
noncomputable def Sref13_Right : List (V U) → List (Blk U) → Option (FnOut U) := mkSpec Aref13_Right bNil (fun x _ => ref13_Right x.1) Rref13_Right
noncomputable def Eref13_Right : Env U := { P := Try.prog, cd := cd, fns := fns67, lps := noL, frz := fun _r => false, nt := 23, n0 := 0 }
theorem runref13_Right (x : Clock × Unit) (g : Unit) : execF Eref13_Right Try.f68 (Aref13_Right.enc x) (bNil.enc g) = (Tref13_Right x.1).map Rref13_Right := by kernel_rfl
theorem okref13_Right : FnOk Try.prog cd 68 Sref13_Right := mk_ok (E := Eref13_Right) cd_ok fns67_ok Try.func68 (by kernel_rfl) (noLoops_body (by kernel_rfl)) (aA_ok cClock_ok (aNil_ok)) bNil_ok (T := fun x _ => Tref13_Right x.1) (fun _ _ => rfl) runref13_Right
noncomputable def fns68 := addF 68 true Sref13_Right fns67
theorem fns68_ok : ∀ f q t, fns68 f = some (q, t) → FnOk Try.prog cd f t := addF_ok okref13_Right fns67_ok
/-- emulator/emulatorref16.word -/
noncomputable def Tref16_word (x0 : Int) : Tree Bool :=
  .ite (decide ((0 : Int) ≤ x0))
    (.leaf (decide (x0 ≤ (65535 : Int))))
    (.leaf (false))
noncomputable def ref16_word (x0 : Int) : Option Bool := (Tref16_word x0).run
noncomputable def Aref16_word : Arg U (Int × Unit) := aO (cInt .i64) (aNil)
noncomputable def Rref16_word (r : Bool) : List (V U) × List (Blk U) := ([vO cBool r], [])
noncomputable def Sref16_word : List (V U) → List (Blk U) → Option (FnOut U) := mkSpec Aref16_word bNil (fun x _ => ref16_word x.1) Rref16_word
noncomputable def Eref16_word : Env U := { P := Try.prog, cd := cd, fns := fns68, lps := noL, frz := fun _r => false, nt := 9, n0 := 0 }
theorem runref16_word (x : Int × Unit) (g : Unit) : execF Eref16_word Try.f86 (Aref16_word.enc x) (bNil.enc g) = (Tref16_word x.1).map Rref16_word := by kernel_rfl
theorem okref16_word : FnOk Try.prog cd 86 Sref16_word := mk_ok (E := Eref16_word) cd_ok fns68_ok Try.func86 (by kernel_rfl) (noLoops_body (by kernel_rfl)) (aO_ok (cInt_ok .i64) (aNil_ok)) bNil_ok (T := fun x _ => Tref16_word x.1) (fun _ _ => rfl) runref16_word
noncomputable def fns86 := addF 86 true Sref16_word fns68
theorem fns86_ok : ∀ f q t, fns86 f = some (q, t) → FnOk Try.prog cd f t := addF_ok okref16_word fns68_ok
/-- emulator/emulatorref15.Right -/
structure Sref15_Right_0 where
  t3 : Int
  b0 : Drive
noncomputable def Wref15_Right_0 (s : Sref15_Right_0) : Tree (Sref15_Right_0 ⊕ ((Bool × Drive) ⊕ Drive)) :=
  .ite (decide (s.t3 < (s.b0.sectors.length : Int)))
    (.ite (decide (0 ≤ s.t3))
      (.opt (List UInt8) (s.b0.sectors[(s.t3).toNat]?) fun y28 =>
        .ite (!decide ((y28.length : Int) = (128 : Int)))
          (.leaf (.inr (.inl (false, s.b0))))
          (.leaf (.inl (Sref15_Right_0.mk (IntKind.wrap .i64 (s.t3 + (1 : Int))) s.b0))))
      .fail)
    (.leaf (.inr (.inr s.b0)))
noncomputable def Lref15_Right_0 (q : Option Nat) (s : Sref15_Right_0) : Option ((Bool × Drive) ⊕ Drive) := limQ q (fun s => (Wref15_Right_0 s).run) s
theorem leLref15_Right_0 (k : Nat) (s : Sref15_Right_0) : Le (Lref15_Right_0 (some k) s) (Lref15_Right_0 none s) := limQ_le (fun _ => Le.rfl) s
structure Sref15_Right_1 where
  t4 : Int
  b0 : Drive
noncomputable def Wref15_Right_1 (s : Sref15_Right_1) : Tree (Sref15_Right_1 ⊕ (Bool ⊕ Unit)) :=
  .ite (decide (s.t4 < (s.b0.bad.length : Int)))
    (.ite (decide (0 ≤ s.t4))
      (.opt Int (s.b0.bad[(s.t4).toNat]?) fun y32 =>
        .ite (decide (y32 < (0 : Int)))
          (.leaf (.inr (.inl false)))
          (.ite (decide (0 ≤ s.t4))
            (.opt Int (s.b0.bad[(s.t4).toNat]?) fun y33 =>
              .ite (decide ((s.b0.sectors.length : Int) ≤ y33))
                (.leaf (.inr (.inl false)))
                (.ite (decide ((0 : Int) < s.t4))
                  (.ite (decide (0 ≤ IntKind.wrap .i64 (s.t4 - (1 : Int))))
                    (.opt Int (s.b0.bad[(IntKind.wrap .i64 (s.t4 - (1 : Int))).toNat]?) fun y34 =>
                      .ite (decide (0 ≤ s.t4))
                        (.opt Int (s.b0.bad[(s.t4).toNat]?) fun y35 =>
                          .ite (decide (y35 ≤ y34))
                            (.leaf (.inr (.inl false)))
                            (.leaf (.inl (Sref15_Right_1.mk (IntKind.wrap .i64 (s.t4 + (1 : Int))) s.b0))))
                        .fail)
                    .fail)
                  (.leaf (.inl (Sref15_Right_1.mk (IntKind.wrap .i64 (s.t4 + (1 : Int))) s.b0)))))
            .fail))
      .fail)
    (.leaf (.inr (.inr ())))
noncomputable def Lref15_Right_1 (q : Option Nat) (s : Sref15_Right_1) : Option (Bool ⊕ Unit) := limQ q (fun s => (Wref15_Right_1 s).run) s
theorem leLref15_Right_1 (k : Nat) (s : Sref15_Right_1) : Le (Lref15_Right_1 (some k) s) (Lref15_Right_1 none s) := limQ_le (fun _ => Le.rfl) s
noncomputable def Tref15_Right (q : Option Nat) (x0 : Drive) : Tree Bool :=
  .ite (decide ((x0.sectors.length : Int) < (1 : Int)))
    (.leaf (false))
    (.ite (decide ((256 : Int) < (x0.sectors.length : Int)))
      (.leaf (false))
      (.opt ((Bool × Drive) ⊕ Drive) (Lref15_Right_0 q (Sref15_Right_0.mk (0 : Int) x0)) fun l29 =>
        .ite (l29.isLeft)
          (.opt (Bool × Drive) (l29.getLeft?) fun a30 =>
            .leaf (a30.1))
          (.opt Drive (l29.getRight?) fun b31 =>
            .opt (Bool ⊕ Unit) (Lref15_Right_1 q (Sref15_Right_1.mk (0 : Int) b31)) fun l36 =>
              .ite (l36.isLeft)
                (.opt Bool (l36.getLeft?) fun a37 =>
                  .leaf (a37))
                (.opt Unit (l36.getRight?) fun b38 =>
                  .leaf (true)))))
noncomputable def ref15_Right (q : Option Nat) (x0 : Drive) : Option Bool := (Tref15_Right q x0).run
theorem leref15_Right (k : Nat) (x0 : Drive) : Le (ref15_Right (some k) x0) (ref15_Right none x0) := (TLe.ite TLe.rfl (TLe.ite TLe.rfl (TLe.opt (leLref15_Right_0 k _) fun _ => (TLe.ite TLe.rfl (TLe.opt Le.rfl fun _ => (TLe.opt (leLref15_Right_1 k _) fun _ => TLe.rfl))))))
noncomputable def Aref15_Right : Arg U (Drive × Unit) := aA cDrive (aNil)
noncomputable def Rref15_Right (r : Bool) : List (V U) × List (Blk U) := ([vO cBool r], [])
noncomputable def Sref15_Right : List (V U) → List (Blk U) → Option (FnOut U) := mkSpec Aref15_Right bNil (fun x _ => ref15_Right none x.1) Rref15_Right
noncomputable def Pref15_Right_0 (x : (Unit) × (Int × Unit) × Unit) (g : (Drive × Unit) × Unit) : Sref15_Right_0 := Sref15_Right_0.mk x.2.1.1 g.1.1
noncomputable def tAref15_Right_0 : Tms U ((Unit) × (Int × Unit) × Unit) := tO 1 (cK (.ptr 0 0) (cUnit)) (tO 3 (cPair (cInt .i64) (cUnit)) (tNil))
noncomputable def tBref15_Right_0 : Bls U ((Drive × Unit) × Unit) := bC (cPair cDrive (cUnit)) (bNil)
noncomputable def eSref15_Right_0 (s : Sref15_Right_0) : St U := { tm := [(1, .v (vO (cK (.ptr 0 0) (cUnit)) (()))), (3, .v (vO (cPair (cInt .i64) (cUnit)) (s.t3, ())))], hp := [.cells ((cPair cDrive (cUnit) : Cdc U (Drive × Unit)).enc (s.b0, ()))] }
noncomputable def xSref15_Right_0 : ((Bool × Drive) ⊕ Drive) → Ex × St U
  | .inl r => (.ret, { tm := [(1, .v (vO (cK (.ptr 0 0) (cUnit)) (()))), (2, .v (vO (cPair cBool (cUnit)) (r.1, ())))], hp := [.cells ((cPair cDrive (cUnit) : Cdc U (Drive × Unit)).enc (r.2, ()))] })
  | .inr r => (.exit 0, { tm := [(1, .v (vO (cK (.ptr 0 0) (cUnit)) (())))], hp := [.cells ((cPair cDrive (cUnit) : Cdc U (Drive × Unit)).enc (r, ()))] })
noncomputable def xTref15_Right_0 (y : ((Bool × Drive) ⊕ Drive)) : Tree (Ex × St U) := .ite y.isLeft (.opt (Bool × Drive) y.getLeft? fun r => .leaf (.ret, { tm := [(1, .v (vO (cK (.ptr 0 0) (cUnit)) (()))), (2, .v (vO (cPair cBool (cUnit)) (r.1, ())))], hp := [.cells ((cPair cDrive (cUnit) : Cdc U (Drive × Unit)).enc (r.2, ()))] })) (.opt Drive y.getRight? fun r => .leaf (.exit 0, { tm := [(1, .v (vO (cK (.ptr 0 0) (cUnit)) (())))], hp := [.cells ((cPair cDrive (cUnit) : Cdc U (Drive × Unit)).enc (r, ()))] }))
noncomputable def href15_Right_0 : Hd := { keep := [1, 3], xkeep := [1, 2], own := false }
noncomputable def Pref15_Right_1 (x : (Unit) × (Int × Unit) × Unit) (g : (Drive × Unit) × Unit) : Sref15_Right_1 := Sref15_Right_1.mk x.2.1.1 g.1.1
noncomputable def tAref15_Right_1 : Tms U ((Unit) × (Int × Unit) × Unit) := tO 1 (cK (.ptr 0 0) (cUnit)) (tO 4 (cPair (cInt .i64) (cUnit)) (tNil))
noncomputable def tBref15_Right_1 : Bls U ((Drive × Unit) × Unit) := bC (cPair cDrive (cUnit)) (bNil)
noncomputable def eSref15_Right_1 (s : Sref15_Right_1) : St U := { tm := [(1, .v (vO (cK (.ptr 0 0) (cUnit)) (()))), (4, .v (vO (cPair (cInt .i64) (cUnit)) (s.t4, ())))], hp := [.cells ((cPair cDrive (cUnit) : Cdc U (Drive × Unit)).enc (s.b0, ()))] }
noncomputable def xSref15_Right_1 : (Bool ⊕ Unit) → Ex × St U
  | .inl r => (.ret, { tm := [(2, .v (vO (cPair cBool (cUnit)) (r, ())))], hp := [] })
  | .inr r => (.exit 2, { tm := [], hp := [] })
noncomputable def xTref15_Right_1 (y : (Bool ⊕ Unit)) : Tree (Ex × St U) := .ite y.isLeft (.opt Bool y.getLeft? fun r => .leaf (.ret, { tm := [(2, .v (vO (cPair cBool (cUnit)) (r, ())))], hp := [] })) (.opt Unit y.getRight? fun r => .leaf (.exit 2, { tm := [], hp := [] }))
noncomputable def href15_Right_1 : Hd := { keep := [1, 4], xkeep := [2], own := false }
noncomputable def Eref15_Right : Env U := { P := Try.prog, cd := cd, fns := fns86, lps := (addL 0 href15_Right_0 (mkLoop tAref15_Right_0 tBref15_Right_0 Pref15_Right_0 (Lref15_Right_0 none) xTref15_Right_0) (addL 1 href15_Right_1 (mkLoop tAref15_Right_1 tBref15_Right_1 Pref15_Right_1 (Lref15_Right_1 none) xTref15_Right_1) noL)), frz := fun _r => false, nt := 71, n0 := 0 }
noncomputable def Bref15_Right_0 : Code := (loopAt (Try.f87.body.getD .skip) 0 0).getD .skip
theorem roundref15_Right_0 (s : Sref15_Right_0) : round Eref15_Right href15_Right_0 Bref15_Right_0 0 (eSref15_Right_0 s) = (Wref15_Right_0 s).map (sumE eSref15_Right_0 xSref15_Right_0) := by kernel_rfl
theorem lpref15_Right_0 : LpOk Eref15_Right Bref15_Right_0 0 := mkLoop_ok (A := tAref15_Right_0) (B := tBref15_Right_0) (f := Pref15_Right_0) (L := Lref15_Right_0 none) (tO_ok (cK_ok cUnit_ok) (tO_ok (cPair_ok (cInt_ok .i64) cUnit_ok) tNil_ok)) (bC_ok (cPair_ok cDrive_ok cUnit_ok) bNil_ok) (enc := eSref15_Right_0) (out := xTref15_Right_0) (outS := xSref15_Right_0) (step := Wref15_Right_0) (fun _ => rfl) (fun _ _ => by kernel_rfl) (by kernel_rfl) (fun b => by cases b <;> rfl) roundref15_Right_0
noncomputable def Bref15_Right_1 : Code := (loopAt (Try.f87.body.getD .skip) 0 1).getD .skip
theorem roundref15_Right_1 (s : Sref15_Right_1) : round Eref15_Right href15_Right_1 Bref15_Right_1 1 (eSref15_Right_1 s) = (Wref15_Right_1 s).map (sumE eSref15_Right_1 xSref15_Right_1) := by kernel_rfl
theorem lpref15_Right_1 : LpOk Eref15_Right Bref15_Right_1 1 := mkLoop_ok (A := tAref15_Right_1) (B := tBref15_Right_1) (f := Pref15_Right_1) (L := Lref15_Right_1 none) (tO_ok (cK_ok cUnit_ok) (tO_ok (cPair_ok (cInt_ok .i64) cUnit_ok) tNil_ok)) (bC_ok (cPair_ok cDrive_ok cUnit_ok) bNil_ok) (enc := eSref15_Right_1) (out := xTref15_Right_1) (outS := xSref15_Right_1) (step := Wref15_Right_1) (fun _ => rfl) (fun _ _ => by kernel_rfl) (by kernel_rfl) (fun b => by cases b <;> rfl) roundref15_Right_1
theorem runref15_Right (x : Drive × Unit) (g : Unit) : execF Eref15_Right Try.f87 (Aref15_Right.enc x) (bNil.enc g) = (Tref15_Right none x.1).map Rref15_Right := by kernel_rfl
theorem okref15_Right : FnOk Try.prog cd 87 Sref15_Right := mk_ok (E := Eref15_Right) cd_ok fns86_ok Try.func87 (by kernel_rfl) (loops_of (addL_ok lpref15_Right_0 (addL_ok lpref15_Right_1 noL_ok))) (aA_ok cDrive_ok (aNil_ok)) bNil_ok (T := fun x _ => Tref15_Right none x.1) (fun _ _ => rfl) runref15_Right
noncomputable def fns87 := addF 87 true Sref15_Right fns86
theorem fns87_ok : ∀ f q t, fns87 f = some (q, t) → FnOk Try.prog cd f t := addF_ok okref15_Right fns86_ok
/-- emulator/emulatorref16.Right -/
noncomputable def Tref16_Right (q : Option Nat) (x0 : Disk) : Tree Bool :=
  .ite (decide (x0.command < (0 : Int)))
    (.leaf (false))
    (.ite (decide ((3 : Int) < x0.command))
      (.leaf (false))
      (.opt Bool (ref16_word x0.words) fun r39 =>
        .ite (!r39)
          (.leaf (false))
          (.opt Bool (ref16_word x0.addr) fun r40 =>
            .ite (!r40)
              (.leaf (false))
              (.opt Bool (ref16_word x0.start) fun r41 =>
                .ite (!r41)
                  (.leaf (false))
                  (.ite (decide ((2 : Int) = 0))
                    .fail
                    (.ite (!decide (((x0.addr).tmod (2 : Int)) = (0 : Int)))
                      (.leaf (false))
                      (.ite (decide (x0.left < (0 : Int)))
                        (.leaf (false))
                        (.ite (decide ((8 : Int) < x0.left))
                          (.leaf (false))
                          (.ite (!(x0.ready == (decide (x0.left = (0 : Int)))))
                            (.leaf (false))
                            (.ite (!decide (x0.left = (0 : Int)))
                              (.ite (decide (x0.command = (0 : Int)))
                                (.leaf (false))
                                (.ite (decide (x0.words = (0 : Int)))
                                  (.leaf (false))
                                  (.opt Bool (ref15_Right q x0.drive) fun r42 =>
                                    .leaf (r42))))
                              (.opt Bool (ref15_Right q x0.drive) fun r43 =>
                                .leaf (r43))))))))))))
noncomputable def ref16_Right (q : Option Nat) (x0 : Disk) : Option Bool := (Tref16_Right q x0).run
theorem leref16_Right (k : Nat) (x0 : Disk) : Le (ref16_Right (some k) x0) (ref16_Right none x0) := (TLe.ite TLe.rfl (TLe.ite TLe.rfl (TLe.opt Le.rfl fun _ => (TLe.ite TLe.rfl (TLe.opt Le.rfl fun _ => (TLe.ite TLe.rfl (TLe.opt Le.rfl fun _ => (TLe.ite TLe.rfl (TLe.ite TLe.rfl (TLe.ite TLe.rfl (TLe.ite TLe.rfl (TLe.ite TLe.rfl (TLe.ite TLe.rfl (TLe.ite (TLe.ite TLe.rfl (TLe.ite TLe.rfl (TLe.opt (leref15_Right k _) fun _ => TLe.rfl))) (TLe.opt (leref15_Right k _) fun _ => TLe.rfl)))))))))))))))
noncomputable def Aref16_Right : Arg U (Disk × Unit) := aA cDisk (aNil)
noncomputable def Rref16_Right (r : Bool) : List (V U) × List (Blk U) := ([vO cBool r], [])
noncomputable def Sref16_Right : List (V U) → List (Blk U) → Option (FnOut U) := mkSpec Aref16_Right bNil (fun x _ => ref16_Right none x.1) Rref16_Right
noncomputable def Eref16_Right : Env U := { P := Try.prog, cd := cd, fns := fns87, lps := noL, frz := fun _r => false, nt := 69, n0 := 0 }
theorem runref16_Right (x : Disk × Unit) (g : Unit) : execF Eref16_Right Try.f69 (Aref16_Right.enc x) (bNil.enc g) = (Tref16_Right none x.1).map Rref16_Right := by kernel_rfl
theorem okref16_Right : FnOk Try.prog cd 69 Sref16_Right := mk_ok (E := Eref16_Right) cd_ok fns87_ok Try.func69 (by kernel_rfl) (noLoops_body (by kernel_rfl)) (aA_ok cDisk_ok (aNil_ok)) bNil_ok (T := fun x _ => Tref16_Right none x.1) (fun _ _ => rfl) runref16_Right
noncomputable def fns69 := addF 69 true Sref16_Right fns87
theorem fns69_ok : ∀ f q t, fns69 f = some (q, t) → FnOk Try.prog cd f t := addF_ok okref16_Right fns87_ok
/-- emulator/emulatorref17.word -/
noncomputable def Tref17_word (x0 : Int) : Tree Bool :=
  .ite (decide ((0 : Int) ≤ x0))
    (.leaf (decide (x0 ≤ (65535 : Int))))
    (.leaf (false))
noncomputable def ref17_word (x0 : Int) : Option Bool := (Tref17_word x0).run
noncomputable def Aref17_word : Arg U (Int × Unit) := aO (cInt .i64) (aNil)
noncomputable def Rref17_word (r : Bool) : List (V U) × List (Blk U) := ([vO cBool r], [])
noncomputable def Sref17_word : List (V U) → List (Blk U) → Option (FnOut U) := mkSpec Aref17_word bNil (fun x _ => ref17_word x.1) Rref17_word
noncomputable def Eref17_word : Env U := { P := Try.prog, cd := cd, fns := fns69, lps := noL, frz := fun _r => false, nt := 9, n0 := 0 }
theorem runref17_word (x : Int × Unit) (g : Unit) : execF Eref17_word Try.f88 (Aref17_word.enc x) (bNil.enc g) = (Tref17_word x.1).map Rref17_word := by kernel_rfl
theorem okref17_word : FnOk Try.prog cd 88 Sref17_word := mk_ok (E := Eref17_word) cd_ok fns69_ok Try.func88 (by kernel_rfl) (noLoops_body (by kernel_rfl)) (aO_ok (cInt_ok .i64) (aNil_ok)) bNil_ok (T := fun x _ => Tref17_word x.1) (fun _ _ => rfl) runref17_word
noncomputable def fns88 := addF 88 true Sref17_word fns69
theorem fns88_ok : ∀ f q t, fns88 f = some (q, t) → FnOk Try.prog cd f t := addF_ok okref17_word fns69_ok
/-- emulator/emulatorref17.Right -/
structure Sref17_Right_0 where
  t3 : Int
  b0 : Tape
noncomputable def Wref17_Right_0 (s : Sref17_Right_0) : Tree (Sref17_Right_0 ⊕ ((Bool × Tape) ⊕ Tape)) :=
  .ite (decide (s.t3 < (s.b0.records.length : Int)))
    (.ite (decide (0 ≤ s.t3))
      (.opt (List UInt8) (s.b0.records[(s.t3).toNat]?) fun y46 =>
        .ite (decide ((512 : Int) < (y46.length : Int)))
          (.leaf (.inr (.inl (false, s.b0))))
          (.leaf (.inl (Sref17_Right_0.mk (IntKind.wrap .i64 (s.t3 + (1 : Int))) s.b0))))
      .fail)
    (.leaf (.inr (.inr s.b0)))
noncomputable def Lref17_Right_0 (q : Option Nat) (s : Sref17_Right_0) : Option ((Bool × Tape) ⊕ Tape) := limQ q (fun s => (Wref17_Right_0 s).run) s
theorem leLref17_Right_0 (k : Nat) (s : Sref17_Right_0) : Le (Lref17_Right_0 (some k) s) (Lref17_Right_0 none s) := limQ_le (fun _ => Le.rfl) s
noncomputable def Tref17_Right (q : Option Nat) (x0 : Tape) : Tree Bool :=
  .ite (decide ((64 : Int) < (x0.records.length : Int)))
    (.leaf (false))
    (.ite (decide (x0.pos < (0 : Int)))
      (.leaf (false))
      (.ite (decide ((x0.records.length : Int) < x0.pos))
        (.leaf (false))
        (.ite (decide (x0.command < (0 : Int)))
          (.leaf (false))
          (.ite (decide ((6 : Int) < x0.command))
            (.leaf (false))
            (.opt Bool (ref17_word x0.count) fun r44 =>
              .ite (!r44)
                (.leaf (false))
                (.opt Bool (ref17_word x0.addr) fun r45 =>
                  .ite (!r45)
                    (.leaf (false))
                    (.opt ((Bool × Tape) ⊕ Tape) (Lref17_Right_0 q (Sref17_Right_0.mk (0 : Int) x0)) fun l47 =>
                      .ite (l47.isLeft)
                        (.opt (Bool × Tape) (l47.getLeft?) fun a48 =>
                          .leaf (a48.1))
                        (.opt Tape (l47.getRight?) fun b49 =>
                          .ite (decide ((0 : Int) ≤ b49.left))
                            (.ite (decide (b49.left ≤ (16 : Int)))
                              (.leaf ((b49.ready == (decide (b49.left = (0 : Int))))))
                              (.leaf (false)))
                            (.leaf (false))))))))))
noncomputable def ref17_Right (q : Option Nat) (x0 : Tape) : Option Bool := (Tref17_Right q x0).run
theorem leref17_Right (k : Nat) (x0 : Tape) : Le (ref17_Right (some k) x0) (ref17_Right none x0) := (TLe.ite TLe.rfl (TLe.ite TLe.rfl (TLe.ite TLe.rfl (TLe.ite TLe.rfl (TLe.ite TLe.rfl (TLe.opt Le.rfl fun _ => (TLe.ite TLe.rfl (TLe.opt Le.rfl fun _ => (TLe.ite TLe.rfl (TLe.opt (leLref17_Right_0 k _) fun _ => TLe.rfl))))))))))
noncomputable def Aref17_Right : Arg U (Tape × Unit) := aA cTape (aNil)
noncomputable def Rref17_Right (r : Bool) : List (V U) × List (Blk U) := ([vO cBool r], [])
noncomputable def Sref17_Right : List (V U) → List (Blk U) → Option (FnOut U) := mkSpec Aref17_Right bNil (fun x _ => ref17_Right none x.1) Rref17_Right
noncomputable def Pref17_Right_0 (x : (Unit) × (Int × Unit) × Unit) (g : (Tape × Unit) × Unit) : Sref17_Right_0 := Sref17_Right_0.mk x.2.1.1 g.1.1
noncomputable def tAref17_Right_0 : Tms U ((Unit) × (Int × Unit) × Unit) := tO 1 (cK (.ptr 0 0) (cUnit)) (tO 3 (cPair (cInt .i64) (cUnit)) (tNil))
noncomputable def tBref17_Right_0 : Bls U ((Tape × Unit) × Unit) := bC (cPair cTape (cUnit)) (bNil)
noncomputable def eSref17_Right_0 (s : Sref17_Right_0) : St U := { tm := [(1, .v (vO (cK (.ptr 0 0) (cUnit)) (()))), (3, .v (vO (cPair (cInt .i64) (cUnit)) (s.t3, ())))], hp := [.cells ((cPair cTape (cUnit) : Cdc U (Tape × Unit)).enc (s.b0, ()))] }
noncomputable def xSref17_Right_0 : ((Bool × Tape) ⊕ Tape) → Ex × St U
  | .inl r => (.ret, { tm := [(1, .v (vO (cK (.ptr 0 0) (cUnit)) (()))), (2, .v (vO (cPair cBool (cUnit)) (r.1, ())))], hp := [.cells ((cPair cTape (cUnit) : Cdc U (Tape × Unit)).enc (r.2, ()))] })
  | .inr r => (.exit 0, { tm := [(1, .v (vO (cK (.ptr 0 0) (cUnit)) (())))], hp := [.cells ((cPair cTape (cUnit) : Cdc U (Tape × Unit)).enc (r, ()))] })
noncomputable def xTref17_Right_0 (y : ((Bool × Tape) ⊕ Tape)) : Tree (Ex × St U) := .ite y.isLeft (.opt (Bool × Tape) y.getLeft? fun r => .leaf (.ret, { tm := [(1, .v (vO (cK (.ptr 0 0) (cUnit)) (()))), (2, .v (vO (cPair cBool (cUnit)) (r.1, ())))], hp := [.cells ((cPair cTape (cUnit) : Cdc U (Tape × Unit)).enc (r.2, ()))] })) (.opt Tape y.getRight? fun r => .leaf (.exit 0, { tm := [(1, .v (vO (cK (.ptr 0 0) (cUnit)) (())))], hp := [.cells ((cPair cTape (cUnit) : Cdc U (Tape × Unit)).enc (r, ()))] }))
noncomputable def href17_Right_0 : Hd := { keep := [1, 3], xkeep := [1, 2], own := false }
noncomputable def Eref17_Right : Env U := { P := Try.prog, cd := cd, fns := fns88, lps := (addL 0 href17_Right_0 (mkLoop tAref17_Right_0 tBref17_Right_0 Pref17_Right_0 (Lref17_Right_0 none) xTref17_Right_0) noL), frz := fun _r => false, nt := 73, n0 := 0 }
noncomputable def Bref17_Right_0 : Code := (loopAt (Try.f70.body.getD .skip) 0 0).getD .skip
theorem roundref17_Right_0 (s : Sref17_Right_0) : round Eref17_Right href17_Right_0 Bref17_Right_0 0 (eSref17_Right_0 s) = (Wref17_Right_0 s).map (sumE eSref17_Right_0 xSref17_Right_0) := by kernel_rfl
theorem lpref17_Right_0 : LpOk Eref17_Right Bref17_Right_0 0 := mkLoop_ok (A := tAref17_Right_0) (B := tBref17_Right_0) (f := Pref17_Right_0) (L := Lref17_Right_0 none) (tO_ok (cK_ok cUnit_ok) (tO_ok (cPair_ok (cInt_ok .i64) cUnit_ok) tNil_ok)) (bC_ok (cPair_ok cTape_ok cUnit_ok) bNil_ok) (enc := eSref17_Right_0) (out := xTref17_Right_0) (outS := xSref17_Right_0) (step := Wref17_Right_0) (fun _ => rfl) (fun _ _ => by kernel_rfl) (by kernel_rfl) (fun b => by cases b <;> rfl) roundref17_Right_0
theorem runref17_Right (x : Tape × Unit) (g : Unit) : execF Eref17_Right Try.f70 (Aref17_Right.enc x) (bNil.enc g) = (Tref17_Right none x.1).map Rref17_Right := by kernel_rfl
theorem okref17_Right : FnOk Try.prog cd 70 Sref17_Right := mk_ok (E := Eref17_Right) cd_ok fns88_ok Try.func70 (by kernel_rfl) (loops_of (addL_ok lpref17_Right_0 noL_ok)) (aA_ok cTape_ok (aNil_ok)) bNil_ok (T := fun x _ => Tref17_Right none x.1) (fun _ _ => rfl) runref17_Right
noncomputable def fns70 := addF 70 true Sref17_Right fns88
theorem fns70_ok : ∀ f q t, fns70 f = some (q, t) → FnOk Try.prog cd f t := addF_ok okref17_Right fns88_ok
/-- emulator/emulatorref18.Right -/
structure Sref18_Right_0 where
  t3 : Int
  b0 : Machine
noncomputable def Wref18_Right_0 (s : Sref18_Right_0) : Tree (Sref18_Right_0 ⊕ ((Bool × Machine) ⊕ Machine)) :=
  .ite (decide (s.t3 < (s.b0.lines.length : Int)))
    (.ite (decide (0 ≤ s.t3))
      (.opt Line (s.b0.lines[(s.t3).toNat]?) fun y50 =>
        .opt Bool (ref14_Right y50) fun r51 =>
          .ite (!r51)
            (.leaf (.inr (.inl (false, s.b0))))
            (.leaf (.inl (Sref18_Right_0.mk (IntKind.wrap .i64 (s.t3 + (1 : Int))) s.b0))))
      .fail)
    (.leaf (.inr (.inr s.b0)))
noncomputable def Lref18_Right_0 (q : Option Nat) (s : Sref18_Right_0) : Option ((Bool × Machine) ⊕ Machine) := limQ q (fun s => (Wref18_Right_0 s).run) s
theorem leLref18_Right_0 (k : Nat) (s : Sref18_Right_0) : Le (Lref18_Right_0 (some k) s) (Lref18_Right_0 none s) := limQ_le (fun _ => Le.rfl) s
noncomputable def Tref18_Right (q : Option Nat) (x0 : Machine) : Tree Bool :=
  .ite (decide ((4 : Int) < (x0.lines.length : Int)))
    (.leaf (false))
    (.opt ((Bool × Machine) ⊕ Machine) (Lref18_Right_0 q (Sref18_Right_0.mk (0 : Int) x0)) fun l52 =>
      .ite (l52.isLeft)
        (.opt (Bool × Machine) (l52.getLeft?) fun a53 =>
          .leaf (a53.1))
        (.opt Machine (l52.getRight?) fun b54 =>
          .opt Bool (ref08_Right q b54.mem b54.bad) fun r55 =>
            .ite (r55)
              (.opt Bool (ref09_Right q b54.mmu) fun r56 =>
                .ite (r56)
                  (.opt Bool (ref13_Right b54.clock) fun r57 =>
                    .ite (r57)
                      (.opt Bool (ref16_Right q b54.disk) fun r58 =>
                        .ite (r58)
                          (.opt Bool (ref17_Right q b54.tape) fun r59 =>
                            .leaf (r59))
                          (.leaf (false)))
                      (.leaf (false)))
                  (.leaf (false)))
              (.leaf (false))))
noncomputable def ref18_Right (q : Option Nat) (x0 : Machine) : Option Bool := (Tref18_Right q x0).run
theorem leref18_Right (k : Nat) (x0 : Machine) : Le (ref18_Right (some k) x0) (ref18_Right none x0) := (TLe.ite TLe.rfl (TLe.opt (leLref18_Right_0 k _) fun _ => (TLe.ite TLe.rfl (TLe.opt Le.rfl fun _ => (TLe.opt (leref08_Right k _ _) fun _ => (TLe.ite (TLe.opt (leref09_Right k _) fun _ => (TLe.ite (TLe.opt Le.rfl fun _ => (TLe.ite (TLe.opt (leref16_Right k _) fun _ => (TLe.ite (TLe.opt (leref17_Right k _) fun _ => TLe.rfl) TLe.rfl)) TLe.rfl)) TLe.rfl)) TLe.rfl))))))
noncomputable def Aref18_Right : Arg U (Machine × Unit) := aA cMachine (aNil)
noncomputable def Rref18_Right (r : Bool) : List (V U) × List (Blk U) := ([vO cBool r], [])
noncomputable def Sref18_Right : List (V U) → List (Blk U) → Option (FnOut U) := mkSpec Aref18_Right bNil (fun x _ => ref18_Right none x.1) Rref18_Right
noncomputable def Pref18_Right_0 (x : (Unit) × (Int × Unit) × Unit) (g : (Machine × Unit) × Unit) : Sref18_Right_0 := Sref18_Right_0.mk x.2.1.1 g.1.1
noncomputable def tAref18_Right_0 : Tms U ((Unit) × (Int × Unit) × Unit) := tO 1 (cK (.ptr 0 0) (cUnit)) (tO 3 (cPair (cInt .i64) (cUnit)) (tNil))
noncomputable def tBref18_Right_0 : Bls U ((Machine × Unit) × Unit) := bC (cPair cMachine (cUnit)) (bNil)
noncomputable def eSref18_Right_0 (s : Sref18_Right_0) : St U := { tm := [(1, .v (vO (cK (.ptr 0 0) (cUnit)) (()))), (3, .v (vO (cPair (cInt .i64) (cUnit)) (s.t3, ())))], hp := [.cells ((cPair cMachine (cUnit) : Cdc U (Machine × Unit)).enc (s.b0, ()))] }
noncomputable def xSref18_Right_0 : ((Bool × Machine) ⊕ Machine) → Ex × St U
  | .inl r => (.ret, { tm := [(1, .v (vO (cK (.ptr 0 0) (cUnit)) (()))), (2, .v (vO (cPair cBool (cUnit)) (r.1, ())))], hp := [.cells ((cPair cMachine (cUnit) : Cdc U (Machine × Unit)).enc (r.2, ()))] })
  | .inr r => (.exit 0, { tm := [(1, .v (vO (cK (.ptr 0 0) (cUnit)) (())))], hp := [.cells ((cPair cMachine (cUnit) : Cdc U (Machine × Unit)).enc (r, ()))] })
noncomputable def xTref18_Right_0 (y : ((Bool × Machine) ⊕ Machine)) : Tree (Ex × St U) := .ite y.isLeft (.opt (Bool × Machine) y.getLeft? fun r => .leaf (.ret, { tm := [(1, .v (vO (cK (.ptr 0 0) (cUnit)) (()))), (2, .v (vO (cPair cBool (cUnit)) (r.1, ())))], hp := [.cells ((cPair cMachine (cUnit) : Cdc U (Machine × Unit)).enc (r.2, ()))] })) (.opt Machine y.getRight? fun r => .leaf (.exit 0, { tm := [(1, .v (vO (cK (.ptr 0 0) (cUnit)) (())))], hp := [.cells ((cPair cMachine (cUnit) : Cdc U (Machine × Unit)).enc (r, ()))] }))
noncomputable def href18_Right_0 : Hd := { keep := [1, 3], xkeep := [1, 2], own := false }
noncomputable def Eref18_Right : Env U := { P := Try.prog, cd := cd, fns := fns70, lps := (addL 0 href18_Right_0 (mkLoop tAref18_Right_0 tBref18_Right_0 Pref18_Right_0 (Lref18_Right_0 none) xTref18_Right_0) noL), frz := fun _r => false, nt := 47, n0 := 0 }
noncomputable def Bref18_Right_0 : Code := (loopAt (Try.f41.body.getD .skip) 0 0).getD .skip
theorem roundref18_Right_0 (s : Sref18_Right_0) : round Eref18_Right href18_Right_0 Bref18_Right_0 0 (eSref18_Right_0 s) = (Wref18_Right_0 s).map (sumE eSref18_Right_0 xSref18_Right_0) := by kernel_rfl
theorem lpref18_Right_0 : LpOk Eref18_Right Bref18_Right_0 0 := mkLoop_ok (A := tAref18_Right_0) (B := tBref18_Right_0) (f := Pref18_Right_0) (L := Lref18_Right_0 none) (tO_ok (cK_ok cUnit_ok) (tO_ok (cPair_ok (cInt_ok .i64) cUnit_ok) tNil_ok)) (bC_ok (cPair_ok cMachine_ok cUnit_ok) bNil_ok) (enc := eSref18_Right_0) (out := xTref18_Right_0) (outS := xSref18_Right_0) (step := Wref18_Right_0) (fun _ => rfl) (fun _ _ => by kernel_rfl) (by kernel_rfl) (fun b => by cases b <;> rfl) roundref18_Right_0
theorem runref18_Right (x : Machine × Unit) (g : Unit) : execF Eref18_Right Try.f41 (Aref18_Right.enc x) (bNil.enc g) = (Tref18_Right none x.1).map Rref18_Right := by kernel_rfl
theorem okref18_Right : FnOk Try.prog cd 41 Sref18_Right := mk_ok (E := Eref18_Right) cd_ok fns70_ok Try.func41 (by kernel_rfl) (loops_of (addL_ok lpref18_Right_0 noL_ok)) (aA_ok cMachine_ok (aNil_ok)) bNil_ok (T := fun x _ => Tref18_Right none x.1) (fun _ _ => rfl) runref18_Right
noncomputable def fns41 := addF 41 true Sref18_Right fns70
theorem fns41_ok : ∀ f q t, fns41 f = some (q, t) → FnOk Try.prog cd f t := addF_ok okref18_Right fns70_ok
/-- emulator/emulatorref19.word -/
noncomputable def Tref19_word (x0 : Int) : Tree Bool :=
  .ite (decide ((0 : Int) ≤ x0))
    (.leaf (decide (x0 < (65536 : Int))))
    (.leaf (false))
noncomputable def ref19_word (x0 : Int) : Option Bool := (Tref19_word x0).run
noncomputable def Aref19_word : Arg U (Int × Unit) := aO (cInt .i64) (aNil)
noncomputable def Rref19_word (r : Bool) : List (V U) × List (Blk U) := ([vO cBool r], [])
noncomputable def Sref19_word : List (V U) → List (Blk U) → Option (FnOut U) := mkSpec Aref19_word bNil (fun x _ => ref19_word x.1) Rref19_word
noncomputable def Eref19_word : Env U := { P := Try.prog, cd := cd, fns := fns41, lps := noL, frz := fun _r => false, nt := 9, n0 := 0 }
theorem runref19_word (x : Int × Unit) (g : Unit) : execF Eref19_word Try.f71 (Aref19_word.enc x) (bNil.enc g) = (Tref19_word x.1).map Rref19_word := by kernel_rfl
theorem okref19_word : FnOk Try.prog cd 71 Sref19_word := mk_ok (E := Eref19_word) cd_ok fns41_ok Try.func71 (by kernel_rfl) (noLoops_body (by kernel_rfl)) (aO_ok (cInt_ok .i64) (aNil_ok)) bNil_ok (T := fun x _ => Tref19_word x.1) (fun _ _ => rfl) runref19_word
noncomputable def fns71 := addF 71 true Sref19_word fns41
theorem fns71_ok : ∀ f q t, fns71 f = some (q, t) → FnOk Try.prog cd f t := addF_ok okref19_word fns41_ok
/-- emulator/emulatorref04.Valid -/
noncomputable def Tref04_Valid (x0 : Int) : Tree Bool :=
  .ite (decide ((0 : Int) ≤ x0))
    (.ite (decide (x0 ≤ (65535 : Int)))
      (.leaf (decide ((IntKind.wrap .i64 (((BitVec.ofInt 64 x0 &&& ~~~BitVec.ofInt 64 (49407 : Int)).toNat : Int))) = (0 : Int))))
      (.leaf (false)))
    (.leaf (false))
noncomputable def ref04_Valid (x0 : Int) : Option Bool := (Tref04_Valid x0).run
noncomputable def Aref04_Valid : Arg U (Int × Unit) := aO (cInt .i64) (aNil)
noncomputable def Rref04_Valid (r : Bool) : List (V U) × List (Blk U) := ([vO cBool r], [])
noncomputable def Sref04_Valid : List (V U) → List (Blk U) → Option (FnOut U) := mkSpec Aref04_Valid bNil (fun x _ => ref04_Valid x.1) Rref04_Valid
noncomputable def Eref04_Valid : Env U := { P := Try.prog, cd := cd, fns := fns71, lps := noL, frz := fun _r => false, nt := 14, n0 := 0 }
theorem runref04_Valid (x : Int × Unit) (g : Unit) : execF Eref04_Valid Try.f72 (Aref04_Valid.enc x) (bNil.enc g) = (Tref04_Valid x.1).map Rref04_Valid := by kernel_rfl
theorem okref04_Valid : FnOk Try.prog cd 72 Sref04_Valid := mk_ok (E := Eref04_Valid) cd_ok fns71_ok Try.func72 (by kernel_rfl) (noLoops_body (by kernel_rfl)) (aO_ok (cInt_ok .i64) (aNil_ok)) bNil_ok (T := fun x _ => Tref04_Valid x.1) (fun _ _ => rfl) runref04_Valid
noncomputable def fns72 := addF 72 true Sref04_Valid fns71
theorem fns72_ok : ∀ f q t, fns72 f = some (q, t) → FnOk Try.prog cd f t := addF_ok okref04_Valid fns71_ok
/-- emulator/emulatorref19.Right -/
structure Sref19_Right_0 where
  t3 : Int
  b0 : Cpu
noncomputable def Wref19_Right_0 (s : Sref19_Right_0) : Tree (Sref19_Right_0 ⊕ ((Bool × Cpu) ⊕ Cpu)) :=
  .ite (decide (s.t3 < (6 : Int)))
    (.ite (decide (0 ≤ s.t3))
      (.ite (decide (s.t3 < (6 : Int)))
        (.opt Int (s.b0.r[(s.t3).toNat * 1]?) fun y60 =>
          .opt Bool (ref19_word y60) fun r61 =>
            .ite (!r61)
              (.leaf (.inr (.inl (false, s.b0))))
              (.leaf (.inl (Sref19_Right_0.mk (IntKind.wrap .i64 (s.t3 + (1 : Int))) s.b0))))
        .fail)
      .fail)
    (.leaf (.inr (.inr s.b0)))
noncomputable def Lref19_Right_0 (q : Option Nat) (s : Sref19_Right_0) : Option ((Bool × Cpu) ⊕ Cpu) := limQ q (fun s => (Wref19_Right_0 s).run) s
theorem leLref19_Right_0 (k : Nat) (s : Sref19_Right_0) : Le (Lref19_Right_0 (some k) s) (Lref19_Right_0 none s) := limQ_le (fun _ => Le.rfl) s
noncomputable def Tref19_Right (q : Option Nat) (x0 : Cpu) : Tree Bool :=
  .opt ((Bool × Cpu) ⊕ Cpu) (Lref19_Right_0 q (Sref19_Right_0.mk (0 : Int) x0)) fun l62 =>
    .ite (l62.isLeft)
      (.opt (Bool × Cpu) (l62.getLeft?) fun a63 =>
        .leaf (a63.1))
      (.opt Cpu (l62.getRight?) fun b64 =>
        .ite (decide (0 ≤ (0 : Int)))
          (.ite (decide ((0 : Int) < (2 : Int)))
            (.opt Int (b64.sP[((0 : Int)).toNat * 1]?) fun y65 =>
              .opt Bool (ref19_word y65) fun r66 =>
                .ite (r66)
                  (.ite (decide (0 ≤ (1 : Int)))
                    (.ite (decide ((1 : Int) < (2 : Int)))
                      (.opt Int (b64.sP[((1 : Int)).toNat * 1]?) fun y67 =>
                        .opt Bool (ref19_word y67) fun r68 =>
                          .ite (r68)
                            (.opt Bool (ref19_word b64.pC) fun r69 =>
                              .ite (r69)
                                (.opt Bool (ref04_Valid b64.pSW) fun r70 =>
                                  .leaf (r70))
                                (.leaf (false)))
                            (.leaf (false)))
                      .fail)
                    .fail)
                  (.leaf (false)))
            .fail)
          .fail)
noncomputable def ref19_Right (q : Option Nat) (x0 : Cpu) : Option Bool := (Tref19_Right q x0).run
theorem leref19_Right (k : Nat) (x0 : Cpu) : Le (ref19_Right (some k) x0) (ref19_Right none x0) := (TLe.opt (leLref19_Right_0 k _) fun _ => TLe.rfl)
noncomputable def Aref19_Right : Arg U (Cpu × Unit) := aA cCpu (aNil)
noncomputable def Rref19_Right (r : Bool) : List (V U) × List (Blk U) := ([vO cBool r], [])
noncomputable def Sref19_Right : List (V U) → List (Blk U) → Option (FnOut U) := mkSpec Aref19_Right bNil (fun x _ => ref19_Right none x.1) Rref19_Right
noncomputable def Pref19_Right_0 (x : (Unit) × (Int × Unit) × Unit) (g : (Cpu × Unit) × Unit) : Sref19_Right_0 := Sref19_Right_0.mk x.2.1.1 g.1.1
noncomputable def tAref19_Right_0 : Tms U ((Unit) × (Int × Unit) × Unit) := tO 1 (cK (.ptr 0 0) (cUnit)) (tO 3 (cPair (cInt .i64) (cUnit)) (tNil))
noncomputable def tBref19_Right_0 : Bls U ((Cpu × Unit) × Unit) := bC (cPair cCpu (cUnit)) (bNil)
noncomputable def eSref19_Right_0 (s : Sref19_Right_0) : St U := { tm := [(1, .v (vO (cK (.ptr 0 0) (cUnit)) (()))), (3, .v (vO (cPair (cInt .i64) (cUnit)) (s.t3, ())))], hp := [.cells ((cPair cCpu (cUnit) : Cdc U (Cpu × Unit)).enc (s.b0, ()))] }
noncomputable def xSref19_Right_0 : ((Bool × Cpu) ⊕ Cpu) → Ex × St U
  | .inl r => (.ret, { tm := [(1, .v (vO (cK (.ptr 0 0) (cUnit)) (()))), (2, .v (vO (cPair cBool (cUnit)) (r.1, ())))], hp := [.cells ((cPair cCpu (cUnit) : Cdc U (Cpu × Unit)).enc (r.2, ()))] })
  | .inr r => (.exit 0, { tm := [(1, .v (vO (cK (.ptr 0 0) (cUnit)) (())))], hp := [.cells ((cPair cCpu (cUnit) : Cdc U (Cpu × Unit)).enc (r, ()))] })
noncomputable def xTref19_Right_0 (y : ((Bool × Cpu) ⊕ Cpu)) : Tree (Ex × St U) := .ite y.isLeft (.opt (Bool × Cpu) y.getLeft? fun r => .leaf (.ret, { tm := [(1, .v (vO (cK (.ptr 0 0) (cUnit)) (()))), (2, .v (vO (cPair cBool (cUnit)) (r.1, ())))], hp := [.cells ((cPair cCpu (cUnit) : Cdc U (Cpu × Unit)).enc (r.2, ()))] })) (.opt Cpu y.getRight? fun r => .leaf (.exit 0, { tm := [(1, .v (vO (cK (.ptr 0 0) (cUnit)) (())))], hp := [.cells ((cPair cCpu (cUnit) : Cdc U (Cpu × Unit)).enc (r, ()))] }))
noncomputable def href19_Right_0 : Hd := { keep := [1, 3], xkeep := [1, 2], own := false }
noncomputable def Eref19_Right : Env U := { P := Try.prog, cd := cd, fns := fns72, lps := (addL 0 href19_Right_0 (mkLoop tAref19_Right_0 tBref19_Right_0 Pref19_Right_0 (Lref19_Right_0 none) xTref19_Right_0) noL), frz := fun _r => false, nt := 34, n0 := 0 }
noncomputable def Bref19_Right_0 : Code := (loopAt (Try.f42.body.getD .skip) 0 0).getD .skip
theorem roundref19_Right_0 (s : Sref19_Right_0) : round Eref19_Right href19_Right_0 Bref19_Right_0 0 (eSref19_Right_0 s) = (Wref19_Right_0 s).map (sumE eSref19_Right_0 xSref19_Right_0) := by kernel_rfl
theorem lpref19_Right_0 : LpOk Eref19_Right Bref19_Right_0 0 := mkLoop_ok (A := tAref19_Right_0) (B := tBref19_Right_0) (f := Pref19_Right_0) (L := Lref19_Right_0 none) (tO_ok (cK_ok cUnit_ok) (tO_ok (cPair_ok (cInt_ok .i64) cUnit_ok) tNil_ok)) (bC_ok (cPair_ok cCpu_ok cUnit_ok) bNil_ok) (enc := eSref19_Right_0) (out := xTref19_Right_0) (outS := xSref19_Right_0) (step := Wref19_Right_0) (fun _ => rfl) (fun _ _ => by kernel_rfl) (by kernel_rfl) (fun b => by cases b <;> rfl) roundref19_Right_0
theorem runref19_Right (x : Cpu × Unit) (g : Unit) : execF Eref19_Right Try.f42 (Aref19_Right.enc x) (bNil.enc g) = (Tref19_Right none x.1).map Rref19_Right := by kernel_rfl
theorem okref19_Right : FnOk Try.prog cd 42 Sref19_Right := mk_ok (E := Eref19_Right) cd_ok fns72_ok Try.func42 (by kernel_rfl) (loops_of (addL_ok lpref19_Right_0 noL_ok)) (aA_ok cCpu_ok (aNil_ok)) bNil_ok (T := fun x _ => Tref19_Right none x.1) (fun _ _ => rfl) runref19_Right
noncomputable def fns42 := addF 42 true Sref19_Right fns72
theorem fns42_ok : ∀ f q t, fns42 f = some (q, t) → FnOk Try.prog cd f t := addF_ok okref19_Right fns72_ok
/-- emulator/emulatorref20.Right -/
noncomputable def Tref20_Right (q : Option Nat) (x0 : Machine) : Tree Bool :=
  .ite (decide (x0.now < (0 : Int)))
    (.leaf (false))
    (.ite (decide ((1099511627776 : Int) < x0.now))
      (.leaf (false))
      (.ite (decide (x0.power < (0 : Int)))
        (.leaf (false))
        (.ite (decide ((10000 : Int) < x0.power))
          (.leaf (false))
          (.ite (x0.halted)
            (.ite (x0.waiting)
              (.leaf (false))
              (.ite (!decide (x0.power = (0 : Int)))
                (.leaf (false))
                (.ite (x0.powerTrap)
                  (.leaf (false))
                  (.opt Bool (ref18_Right q x0) fun r71 =>
                    .ite (r71)
                      (.opt Bool (ref19_Right q x0.cpu) fun r72 =>
                        .leaf (r72))
                      (.leaf (false))))))
            (.opt Bool (ref18_Right q x0) fun r73 =>
              .ite (r73)
                (.opt Bool (ref19_Right q x0.cpu) fun r74 =>
                  .leaf (r74))
                (.leaf (false)))))))
noncomputable def ref20_Right (q : Option Nat) (x0 : Machine) : Option Bool := (Tref20_Right q x0).run
theorem leref20_Right (k : Nat) (x0 : Machine) : Le (ref20_Right (some k) x0) (ref20_Right none x0) := (TLe.ite TLe.rfl (TLe.ite TLe.rfl (TLe.ite TLe.rfl (TLe.ite TLe.rfl (TLe.ite (TLe.ite TLe.rfl (TLe.ite TLe.rfl (TLe.ite TLe.rfl (TLe.opt (leref18_Right k _) fun _ => (TLe.ite (TLe.opt (leref19_Right k _) fun _ => TLe.rfl) TLe.rfl))))) (TLe.opt (leref18_Right k _) fun _ => (TLe.ite (TLe.opt (leref19_Right k _) fun _ => TLe.rfl) TLe.rfl)))))))
noncomputable def Aref20_Right : Arg U (Machine × Unit) := aA cMachine (aNil)
noncomputable def Rref20_Right (r : Bool) : List (V U) × List (Blk U) := ([vO cBool r], [])
noncomputable def Sref20_Right : List (V U) → List (Blk U) → Option (FnOut U) := mkSpec Aref20_Right bNil (fun x _ => ref20_Right none x.1) Rref20_Right
noncomputable def Eref20_Right : Env U := { P := Try.prog, cd := cd, fns := fns42, lps := noL, frz := fun _r => false, nt := 43, n0 := 0 }
theorem runref20_Right (x : Machine × Unit) (g : Unit) : execF Eref20_Right Try.f19 (Aref20_Right.enc x) (bNil.enc g) = (Tref20_Right none x.1).map Rref20_Right := by kernel_rfl
theorem okref20_Right : FnOk Try.prog cd 19 Sref20_Right := mk_ok (E := Eref20_Right) cd_ok fns42_ok Try.func19 (by kernel_rfl) (noLoops_body (by kernel_rfl)) (aA_ok cMachine_ok (aNil_ok)) bNil_ok (T := fun x _ => Tref20_Right none x.1) (fun _ _ => rfl) runref20_Right
noncomputable def fns19 := addF 19 true Sref20_Right fns42
theorem fns19_ok : ∀ f q t, fns19 f = some (q, t) → FnOk Try.prog cd f t := addF_ok okref20_Right fns42_ok
/-- emulator/emulatortop.fit -/
noncomputable def Ttop_fit (q : Option Nat) (x0 : Machine) : Tree Bool :=
  .opt Bool (law18_Small q x0) fun r75 =>
    .ite (r75)
      (.opt Bool (ref20_Right q x0) fun r76 =>
        .leaf (r76))
      (.leaf (false))
noncomputable def top_fit (q : Option Nat) (x0 : Machine) : Option Bool := (Ttop_fit q x0).run
theorem letop_fit (k : Nat) (x0 : Machine) : Le (top_fit (some k) x0) (top_fit none x0) := (TLe.opt (lelaw18_Small k _) fun _ => (TLe.ite (TLe.opt (leref20_Right k _) fun _ => TLe.rfl) TLe.rfl))
noncomputable def Atop_fit : Arg U (Machine × Unit) := aA cMachine (aNil)
noncomputable def Rtop_fit (r : Bool) : List (V U) × List (Blk U) := ([vO cBool r], [])
noncomputable def Stop_fit : List (V U) → List (Blk U) → Option (FnOut U) := mkSpec Atop_fit bNil (fun x _ => top_fit none x.1) Rtop_fit
noncomputable def Etop_fit : Env U := { P := Try.prog, cd := cd, fns := fns19, lps := noL, frz := fun _r => false, nt := 9, n0 := 0 }
theorem runtop_fit (x : Machine × Unit) (g : Unit) : execF Etop_fit Try.f6 (Atop_fit.enc x) (bNil.enc g) = (Ttop_fit none x.1).map Rtop_fit := by kernel_rfl
theorem oktop_fit : FnOk Try.prog cd 6 Stop_fit := mk_ok (E := Etop_fit) cd_ok fns19_ok Try.func6 (by kernel_rfl) (noLoops_body (by kernel_rfl)) (aA_ok cMachine_ok (aNil_ok)) bNil_ok (T := fun x _ => Ttop_fit none x.1) (fun _ _ => rfl) runtop_fit
noncomputable def fns6 := addF 6 true Stop_fit fns19
theorem fns6_ok : ∀ f q t, fns6 f = some (q, t) → FnOk Try.prog cd f t := addF_ok oktop_fit fns19_ok
/-- emulator/image.even -/
noncomputable def Timage_even (x0 : Int) : Tree Int :=
  .leaf (IntKind.wrap .i64 (x0 + (IntKind.wrap .i64 (((BitVec.ofInt 64 x0 &&& BitVec.ofInt 64 (1 : Int)).toNat : Int)))))
noncomputable def image_even (x0 : Int) : Option Int := (Timage_even x0).run
noncomputable def Aimage_even : Arg U (Int × Unit) := aO (cInt .i64) (aNil)
noncomputable def Rimage_even (r : Int) : List (V U) × List (Blk U) := ([vO (cInt .i64) r], [])
noncomputable def Simage_even : List (V U) → List (Blk U) → Option (FnOut U) := mkSpec Aimage_even bNil (fun x _ => image_even x.1) Rimage_even
noncomputable def Eimage_even : Env U := { P := Try.prog, cd := cd, fns := fns6, lps := noL, frz := fun _r => false, nt := 7, n0 := 0 }
theorem runimage_even (x : Int × Unit) (g : Unit) : execF Eimage_even Try.f27 (Aimage_even.enc x) (bNil.enc g) = (Timage_even x.1).map Rimage_even := by kernel_rfl
theorem okimage_even : FnOk Try.prog cd 27 Simage_even := mk_ok (E := Eimage_even) cd_ok fns6_ok Try.func27 (by kernel_rfl) (noLoops_body (by kernel_rfl)) (aO_ok (cInt_ok .i64) (aNil_ok)) bNil_ok (T := fun x _ => Timage_even x.1) (fun _ _ => rfl) runimage_even
noncomputable def fns27 := addF 27 true Simage_even fns6
theorem fns27_ok : ∀ f q t, fns27 f = some (q, t) → FnOk Try.prog cd f t := addF_ok okimage_even fns6_ok
/-- emulator/image.Size -/
noncomputable def Timage_Size (x0 : Image) : Tree Int :=
  .opt Int (image_even (x0.data.length : Int)) fun r77 =>
    .opt Int (image_even (if (32768 : Int) < (if (0 : Int) > x0.bss then (0 : Int) else x0.bss) then (32768 : Int) else (if (0 : Int) > x0.bss then (0 : Int) else x0.bss))) fun r78 =>
      .leaf (IntKind.wrap .i64 ((IntKind.wrap .i64 ((x0.text.length : Int) + r77)) + r78))
noncomputable def image_Size (x0 : Image) : Option Int := (Timage_Size x0).run
noncomputable def Aimage_Size : Arg U (Image × Unit) := aA cImage (aNil)
noncomputable def Rimage_Size (r : Int) : List (V U) × List (Blk U) := ([vO (cInt .i64) r], [])
noncomputable def Simage_Size : List (V U) → List (Blk U) → Option (FnOut U) := mkSpec Aimage_Size bNil (fun x _ => image_Size x.1) Rimage_Size
noncomputable def Eimage_Size : Env U := { P := Try.prog, cd := cd, fns := fns27, lps := noL, frz := fun _r => false, nt := 17, n0 := 0 }
theorem runimage_Size (x : Image × Unit) (g : Unit) : execF Eimage_Size Try.f9 (Aimage_Size.enc x) (bNil.enc g) = (Timage_Size x.1).map Rimage_Size := by kernel_rfl
theorem okimage_Size : FnOk Try.prog cd 9 Simage_Size := mk_ok (E := Eimage_Size) cd_ok fns27_ok Try.func9 (by kernel_rfl) (noLoops_body (by kernel_rfl)) (aA_ok cImage_ok (aNil_ok)) bNil_ok (T := fun x _ => Timage_Size x.1) (fun _ _ => rfl) runimage_Size
noncomputable def fns9 := addF 9 true Simage_Size fns27
theorem fns9_ok : ∀ f q t, fns9 f = some (q, t) → FnOk Try.prog cd f t := addF_ok okimage_Size fns27_ok
/-- strings.IndexByte -/
noncomputable def strings_IndexByte (x0 : (List UInt8)) (x1 : Int) : Option Int := idxF x0 x1
noncomputable def Sstrings_IndexByte : List (V U) → List (Blk U) → Option (FnOut U) := mkSpec (aO cStr (aO (cInt .u8) aNil) : Arg U (List UInt8 × Int × Unit)) bNil (fun x _ => strings_IndexByte x.1 x.2.1) fun r => ([vO (cInt .i64) r], [])
end Go.Proofs.Ytlaabdpccdnalaa
namespace Go.Proofs
open Go.Shelf
shelf_lay Lays.n137 Nm 137 at Try as Try.lays73
end Go.Proofs
namespace Go.Proofs.Ytlaabdpccdnalaa
open Go Go.Ab
theorem okstrings_IndexByte : FnOk Try.prog cd 73 Sstrings_IndexByte := idx_ok Try.lays73 Try.func73 (by kernel_rfl) (by kernel_rfl) rfl
noncomputable def fns73 := addF 73 true Sstrings_IndexByte fns9
theorem fns73_ok : ∀ f q t, fns73 f = some (q, t) → FnOk Try.prog cd f t := addF_ok okstrings_IndexByte fns9_ok
/-- emulator/image.isName -/
structure Simage_isName_0 where
  t23 : (List Int)
  t24 : Int
  t25 : Int
noncomputable def Wimage_isName_0 (s : Simage_isName_0) : Tree (Simage_isName_0 ⊕ (Bool ⊕ Unit)) :=
  .ite (decide (s.t25 < s.t24))
    (.ite (decide (0 ≤ s.t25))
      (.opt Int (s.t23[(s.t25).toNat]?) fun y81 =>
        .ite (decide ((97 : Int) ≤ y81))
          (.ite (decide (y81 ≤ (122 : Int)))
            (.leaf (.inl (Simage_isName_0.mk s.t23 s.t24 (IntKind.wrap .i64 (s.t25 + (1 : Int))))))
            (.ite (decide ((65 : Int) ≤ y81))
              (.ite (decide (y81 ≤ (90 : Int)))
                (.leaf (.inl (Simage_isName_0.mk s.t23 s.t24 (IntKind.wrap .i64 (s.t25 + (1 : Int))))))
                (.ite (decide ((48 : Int) ≤ y81))
                  (.ite (decide (y81 ≤ (57 : Int)))
                    (.leaf (.inl (Simage_isName_0.mk s.t23 s.t24 (IntKind.wrap .i64 (s.t25 + (1 : Int))))))
                    (.opt Int (strings_IndexByte ([95, 46, 36] : List UInt8) y81) fun r82 =>
                      .ite (!(decide ((0 : Int) ≤ r82)))
                        (.leaf (.inr (.inl false)))
                        (.leaf (.inl (Simage_isName_0.mk s.t23 s.t24 (IntKind.wrap .i64 (s.t25 + (1 : Int))))))))
                  (.opt Int (strings_IndexByte ([95, 46, 36] : List UInt8) y81) fun r83 =>
                    .ite (!(decide ((0 : Int) ≤ r83)))
                      (.leaf (.inr (.inl false)))
                      (.leaf (.inl (Simage_isName_0.mk s.t23 s.t24 (IntKind.wrap .i64 (s.t25 + (1 : Int)))))))))
              (.ite (decide ((48 : Int) ≤ y81))
                (.ite (decide (y81 ≤ (57 : Int)))
                  (.leaf (.inl (Simage_isName_0.mk s.t23 s.t24 (IntKind.wrap .i64 (s.t25 + (1 : Int))))))
                  (.opt Int (strings_IndexByte ([95, 46, 36] : List UInt8) y81) fun r84 =>
                    .ite (!(decide ((0 : Int) ≤ r84)))
                      (.leaf (.inr (.inl false)))
                      (.leaf (.inl (Simage_isName_0.mk s.t23 s.t24 (IntKind.wrap .i64 (s.t25 + (1 : Int))))))))
                (.opt Int (strings_IndexByte ([95, 46, 36] : List UInt8) y81) fun r85 =>
                  .ite (!(decide ((0 : Int) ≤ r85)))
                    (.leaf (.inr (.inl false)))
                    (.leaf (.inl (Simage_isName_0.mk s.t23 s.t24 (IntKind.wrap .i64 (s.t25 + (1 : Int))))))))))
          (.ite (decide ((65 : Int) ≤ y81))
            (.ite (decide (y81 ≤ (90 : Int)))
              (.leaf (.inl (Simage_isName_0.mk s.t23 s.t24 (IntKind.wrap .i64 (s.t25 + (1 : Int))))))
              (.ite (decide ((48 : Int) ≤ y81))
                (.ite (decide (y81 ≤ (57 : Int)))
                  (.leaf (.inl (Simage_isName_0.mk s.t23 s.t24 (IntKind.wrap .i64 (s.t25 + (1 : Int))))))
                  (.opt Int (strings_IndexByte ([95, 46, 36] : List UInt8) y81) fun r86 =>
                    .ite (!(decide ((0 : Int) ≤ r86)))
                      (.leaf (.inr (.inl false)))
                      (.leaf (.inl (Simage_isName_0.mk s.t23 s.t24 (IntKind.wrap .i64 (s.t25 + (1 : Int))))))))
                (.opt Int (strings_IndexByte ([95, 46, 36] : List UInt8) y81) fun r87 =>
                  .ite (!(decide ((0 : Int) ≤ r87)))
                    (.leaf (.inr (.inl false)))
                    (.leaf (.inl (Simage_isName_0.mk s.t23 s.t24 (IntKind.wrap .i64 (s.t25 + (1 : Int)))))))))
            (.ite (decide ((48 : Int) ≤ y81))
              (.ite (decide (y81 ≤ (57 : Int)))
                (.leaf (.inl (Simage_isName_0.mk s.t23 s.t24 (IntKind.wrap .i64 (s.t25 + (1 : Int))))))
                (.opt Int (strings_IndexByte ([95, 46, 36] : List UInt8) y81) fun r88 =>
                  .ite (!(decide ((0 : Int) ≤ r88)))
                    (.leaf (.inr (.inl false)))
                    (.leaf (.inl (Simage_isName_0.mk s.t23 s.t24 (IntKind.wrap .i64 (s.t25 + (1 : Int))))))))
              (.opt Int (strings_IndexByte ([95, 46, 36] : List UInt8) y81) fun r89 =>
                .ite (!(decide ((0 : Int) ≤ r89)))
                  (.leaf (.inr (.inl false)))
                  (.leaf (.inl (Simage_isName_0.mk s.t23 s.t24 (IntKind.wrap .i64 (s.t25 + (1 : Int))))))))))
      .fail)
    (.leaf (.inr (.inr ())))
noncomputable def Limage_isName_0 (q : Option Nat) (s : Simage_isName_0) : Option (Bool ⊕ Unit) := limQ q (fun s => (Wimage_isName_0 s).run) s
theorem leLimage_isName_0 (k : Nat) (s : Simage_isName_0) : Le (Limage_isName_0 (some k) s) (Limage_isName_0 none s) := limQ_le (fun _ => Le.rfl) s
noncomputable def Timage_isName (q : Option Nat) (x0 : (List UInt8)) : Tree Bool :=
  .ite (decide (x0 = ([] : List UInt8)))
    (.leaf (false))
    (.ite (decide ((14 : Int) < (x0.length : Int)))
      (.leaf (false))
      (.ite (decide (0 ≤ (0 : Int)))
        (.opt UInt8 (x0[((0 : Int)).toNat]?) fun y79 =>
          .ite (decide ((48 : Int) ≤ (y79.toNat : Int)))
            (.ite (decide (0 ≤ (0 : Int)))
              (.opt UInt8 (x0[((0 : Int)).toNat]?) fun y80 =>
                .ite (decide ((y80.toNat : Int) ≤ (57 : Int)))
                  (.leaf (false))
                  (.opt (Bool ⊕ Unit) (Limage_isName_0 q (Simage_isName_0.mk (x0.map fun b => (b.toNat : Int)) ((x0.map fun b => (b.toNat : Int)).length : Int) (0 : Int))) fun l90 =>
                    .ite (l90.isLeft)
                      (.opt Bool (l90.getLeft?) fun a91 =>
                        .leaf (a91))
                      (.opt Unit (l90.getRight?) fun b92 =>
                        .leaf (true))))
              .fail)
            (.opt (Bool ⊕ Unit) (Limage_isName_0 q (Simage_isName_0.mk (x0.map fun b => (b.toNat : Int)) ((x0.map fun b => (b.toNat : Int)).length : Int) (0 : Int))) fun l93 =>
              .ite (l93.isLeft)
                (.opt Bool (l93.getLeft?) fun a94 =>
                  .leaf (a94))
                (.opt Unit (l93.getRight?) fun b95 =>
                  .leaf (true))))
        .fail))
noncomputable def image_isName (q : Option Nat) (x0 : (List UInt8)) : Option Bool := (Timage_isName q x0).run
theorem leimage_isName (k : Nat) (x0 : (List UInt8)) : Le (image_isName (some k) x0) (image_isName none x0) := (TLe.ite TLe.rfl (TLe.ite TLe.rfl (TLe.ite (TLe.opt Le.rfl fun _ => (TLe.ite (TLe.ite (TLe.opt Le.rfl fun _ => (TLe.ite TLe.rfl (TLe.opt (leLimage_isName_0 k _) fun _ => TLe.rfl))) TLe.rfl) (TLe.opt (leLimage_isName_0 k _) fun _ => TLe.rfl))) TLe.rfl)))
noncomputable def Aimage_isName : Arg U ((List UInt8) × Unit) := aO cStr (aNil)
noncomputable def Rimage_isName (r : Bool) : List (V U) × List (Blk U) := ([vO cBool r], [])
noncomputable def Simage_isName : List (V U) → List (Blk U) → Option (FnOut U) := mkSpec Aimage_isName bNil (fun x _ => image_isName none x.1) Rimage_isName
noncomputable def Pimage_isName_0 (x : ((List Int) × Unit) × (Int × Unit) × (Int × Unit) × Unit) (_g : Unit) : Simage_isName_0 := Simage_isName_0.mk x.1.1 x.2.1.1 x.2.2.1.1
noncomputable def tAimage_isName_0 : Tms U (((List Int) × Unit) × (Int × Unit) × (Int × Unit) × Unit) := tO 23 (cPair (cSl 5) (cUnit)) (tO 24 (cPair (cInt .i64) (cUnit)) (tO 25 (cPair (cInt .i64) (cUnit)) (tNil)))
noncomputable def tBimage_isName_0 : Bls U (Unit) := bNil
noncomputable def eSimage_isName_0 (s : Simage_isName_0) : St U := { tm := [(23, .v (vO (cPair (cSl 5) (cUnit)) (s.t23, ()))), (24, .v (vO (cPair (cInt .i64) (cUnit)) (s.t24, ()))), (25, .v (vO (cPair (cInt .i64) (cUnit)) (s.t25, ())))], hp := [] }
noncomputable def xSimage_isName_0 : (Bool ⊕ Unit) → Ex × St U
  | .inl r => (.ret, { tm := [(2, .v (vO (cPair cBool (cUnit)) (r, ())))], hp := [] })
  | .inr r => (.exit 0, { tm := [], hp := [] })
noncomputable def xTimage_isName_0 (y : (Bool ⊕ Unit)) : Tree (Ex × St U) := .ite y.isLeft (.opt Bool y.getLeft? fun r => .leaf (.ret, { tm := [(2, .v (vO (cPair cBool (cUnit)) (r, ())))], hp := [] })) (.opt Unit y.getRight? fun r => .leaf (.exit 0, { tm := [], hp := [] }))
noncomputable def himage_isName_0 : Hd := { keep := [23, 24, 25], xkeep := [2], own := false }
noncomputable def Eimage_isName : Env U := { P := Try.prog, cd := cd, fns := fns73, lps := (addL 0 himage_isName_0 (mkLoop tAimage_isName_0 tBimage_isName_0 Pimage_isName_0 (Limage_isName_0 none) xTimage_isName_0) noL), frz := fun _r => false, nt := 58, n0 := 0 }
noncomputable def Bimage_isName_0 : Code := (loopAt (Try.f43.body.getD .skip) 0 0).getD .skip
theorem roundimage_isName_0 (s : Simage_isName_0) : round Eimage_isName himage_isName_0 Bimage_isName_0 0 (eSimage_isName_0 s) = (Wimage_isName_0 s).map (sumE eSimage_isName_0 xSimage_isName_0) := by kernel_rfl
theorem lpimage_isName_0 : LpOk Eimage_isName Bimage_isName_0 0 := mkLoop_ok (A := tAimage_isName_0) (B := tBimage_isName_0) (f := Pimage_isName_0) (L := Limage_isName_0 none) (tO_ok (cPair_ok (cSl_ok 5) cUnit_ok) (tO_ok (cPair_ok (cInt_ok .i64) cUnit_ok) (tO_ok (cPair_ok (cInt_ok .i64) cUnit_ok) tNil_ok))) bNil_ok (enc := eSimage_isName_0) (out := xTimage_isName_0) (outS := xSimage_isName_0) (step := Wimage_isName_0) (fun _ => rfl) (fun _ _ => by kernel_rfl) (by kernel_rfl) (fun b => by cases b <;> rfl) roundimage_isName_0
theorem runimage_isName (x : (List UInt8) × Unit) (g : Unit) : execF Eimage_isName Try.f43 (Aimage_isName.enc x) (bNil.enc g) = (Timage_isName none x.1).map Rimage_isName := by kernel_rfl
theorem okimage_isName : FnOk Try.prog cd 43 Simage_isName := mk_ok (E := Eimage_isName) cd_ok fns73_ok Try.func43 (by kernel_rfl) (loops_of (addL_ok lpimage_isName_0 noL_ok)) (aO_ok cStr_ok (aNil_ok)) bNil_ok (T := fun x _ => Timage_isName none x.1) (fun _ _ => rfl) runimage_isName
noncomputable def fns43 := addF 43 true Simage_isName fns73
theorem fns43_ok : ∀ f q t, fns43 f = some (q, t) → FnOk Try.prog cd f t := addF_ok okimage_isName fns73_ok
/-- emulator/image.Check -/
structure Simage_Check_0 where
  t46 : (List Symbol)
  t47 : Int
  t48 : Int
noncomputable def Wimage_Check_0 (q : Option Nat) (s : Simage_Check_0) : Tree (Simage_Check_0 ⊕ (Int ⊕ Unit)) :=
  .ite (decide (s.t48 < s.t47))
    (.ite (decide (0 ≤ s.t48))
      (.opt Symbol (s.t46[(s.t48).toNat]?) fun y97 =>
        .opt Bool (image_isName q y97.name) fun r98 =>
          .ite (!r98)
            (.leaf (.inr (.inl (4 : Int))))
            (.ite (decide (y97.section_ < (0 : Int)))
              (.leaf (.inr (.inl (2 : Int))))
              (.ite (decide ((3 : Int) < y97.section_))
                (.leaf (.inr (.inl (2 : Int))))
                (.ite (!decide ((IntKind.wrap .i64 (((BitVec.ofInt 64 y97.value &&& BitVec.ofInt 64 (65535 : Int)).toNat : Int))) = y97.value))
                  (.leaf (.inr (.inl (2 : Int))))
                  (.leaf (.inl (Simage_Check_0.mk s.t46 s.t47 (IntKind.wrap .i64 (s.t48 + (1 : Int))))))))))
      .fail)
    (.leaf (.inr (.inr ())))
noncomputable def Limage_Check_0 (q : Option Nat) (s : Simage_Check_0) : Option (Int ⊕ Unit) := limQ q (fun s => (Wimage_Check_0 q s).run) s
theorem leLimage_Check_0 (k : Nat) (s : Simage_Check_0) : Le (Limage_Check_0 (some k) s) (Limage_Check_0 none s) := limQ_le (fun s => (TLe.ite (TLe.ite (TLe.opt Le.rfl fun _ => (TLe.opt (leimage_isName k _) fun _ => TLe.rfl)) TLe.rfl) TLe.rfl)) s
noncomputable def Timage_Check (q : Option Nat) (x0 : Image) : Tree Int :=
  .ite (decide ((2 : Int) = 0))
    .fail
    (.ite (!decide ((((x0.text.length : Int)).tmod (2 : Int)) = (0 : Int)))
      (.leaf ((1 : Int)))
      (.opt Int (image_Size x0) fun r96 =>
        .ite (decide ((32512 : Int) < r96))
          (.leaf ((7 : Int)))
          (.ite (decide ((256 : Int) < (x0.symbols.length : Int)))
            (.leaf ((7 : Int)))
            (.ite (decide (x0.bss < (0 : Int)))
              (.leaf ((2 : Int)))
              (.ite (decide (x0.entry < (0 : Int)))
                (.leaf ((2 : Int)))
                (.ite (decide ((2 : Int) = 0))
                  .fail
                  (.ite (!decide (((x0.entry).tmod (2 : Int)) = (0 : Int)))
                    (.leaf ((2 : Int)))
                    (.ite (decide ((if (1 : Int) > (x0.text.length : Int) then (1 : Int) else (x0.text.length : Int)) ≤ x0.entry))
                      (.leaf ((2 : Int)))
                      (.opt (Int ⊕ Unit) (Limage_Check_0 q (Simage_Check_0.mk x0.symbols (x0.symbols.length : Int) (0 : Int))) fun l99 =>
                        .ite (l99.isLeft)
                          (.opt Int (l99.getLeft?) fun a100 =>
                            .leaf (a100))
                          (.opt Unit (l99.getRight?) fun b101 =>
                            .leaf ((0 : Int))))))))))))
noncomputable def image_Check (q : Option Nat) (x0 : Image) : Option Int := (Timage_Check q x0).run
theorem leimage_Check (k : Nat) (x0 : Image) : Le (image_Check (some k) x0) (image_Check none x0) := (TLe.ite TLe.rfl (TLe.ite TLe.rfl (TLe.opt Le.rfl fun _ => (TLe.ite TLe.rfl (TLe.ite TLe.rfl (TLe.ite TLe.rfl (TLe.ite TLe.rfl (TLe.ite TLe.rfl (TLe.ite TLe.rfl (TLe.ite TLe.rfl (TLe.opt (leLimage_Check_0 k _) fun _ => TLe.rfl)))))))))))
noncomputable def Aimage_Check : Arg U (Image × Unit) := aA cImage (aNil)
noncomputable def Rimage_Check (r : Int) : List (V U) × List (Blk U) := ([vO (cInt .i64) r], [])
noncomputable def Simage_Check : List (V U) → List (Blk U) → Option (FnOut U) := mkSpec Aimage_Check bNil (fun x _ => image_Check none x.1) Rimage_Check
noncomputable def Pimage_Check_0 (x : ((List Symbol) × Unit) × (Int × Unit) × (Int × Unit) × Unit) (_g : Unit) : Simage_Check_0 := Simage_Check_0.mk x.1.1 x.2.1.1 x.2.2.1.1
noncomputable def tAimage_Check_0 : Tms U (((List Symbol) × Unit) × (Int × Unit) × (Int × Unit) × Unit) := tO 46 (cPair (cSl 100) (cUnit)) (tO 47 (cPair (cInt .i64) (cUnit)) (tO 48 (cPair (cInt .i64) (cUnit)) (tNil)))
noncomputable def tBimage_Check_0 : Bls U (Unit) := bNil
noncomputable def eSimage_Check_0 (s : Simage_Check_0) : St U := { tm := [(46, .v (vO (cPair (cSl 100) (cUnit)) (s.t46, ()))), (47, .v (vO (cPair (cInt .i64) (cUnit)) (s.t47, ()))), (48, .v (vO (cPair (cInt .i64) (cUnit)) (s.t48, ())))], hp := [] }
noncomputable def xSimage_Check_0 : (Int ⊕ Unit) → Ex × St U
  | .inl r => (.ret, { tm := [(2, .v (vO (cPair (cInt .i64) (cUnit)) (r, ())))], hp := [] })
  | .inr r => (.exit 1, { tm := [], hp := [] })
noncomputable def xTimage_Check_0 (y : (Int ⊕ Unit)) : Tree (Ex × St U) := .ite y.isLeft (.opt Int y.getLeft? fun r => .leaf (.ret, { tm := [(2, .v (vO (cPair (cInt .i64) (cUnit)) (r, ())))], hp := [] })) (.opt Unit y.getRight? fun r => .leaf (.exit 1, { tm := [], hp := [] }))
noncomputable def himage_Check_0 : Hd := { keep := [46, 47, 48], xkeep := [2], own := false }
noncomputable def Eimage_Check : Env U := { P := Try.prog, cd := cd, fns := fns43, lps := (addL 0 himage_Check_0 (mkLoop tAimage_Check_0 tBimage_Check_0 Pimage_Check_0 (Limage_Check_0 none) xTimage_Check_0) noL), frz := fun _r => false, nt := 75, n0 := 0 }
noncomputable def Bimage_Check_0 : Code := (loopAt (Try.f20.body.getD .skip) 0 0).getD .skip
theorem roundimage_Check_0 (s : Simage_Check_0) : round Eimage_Check himage_Check_0 Bimage_Check_0 0 (eSimage_Check_0 s) = (Wimage_Check_0 none s).map (sumE eSimage_Check_0 xSimage_Check_0) := by kernel_rfl
theorem lpimage_Check_0 : LpOk Eimage_Check Bimage_Check_0 0 := mkLoop_ok (A := tAimage_Check_0) (B := tBimage_Check_0) (f := Pimage_Check_0) (L := Limage_Check_0 none) (tO_ok (cPair_ok (cSl_ok 100) cUnit_ok) (tO_ok (cPair_ok (cInt_ok .i64) cUnit_ok) (tO_ok (cPair_ok (cInt_ok .i64) cUnit_ok) tNil_ok))) bNil_ok (enc := eSimage_Check_0) (out := xTimage_Check_0) (outS := xSimage_Check_0) (step := Wimage_Check_0 none) (fun _ => rfl) (fun _ _ => by kernel_rfl) (by kernel_rfl) (fun b => by cases b <;> rfl) roundimage_Check_0
theorem runimage_Check (x : Image × Unit) (g : Unit) : execF Eimage_Check Try.f20 (Aimage_Check.enc x) (bNil.enc g) = (Timage_Check none x.1).map Rimage_Check := by kernel_rfl
theorem okimage_Check : FnOk Try.prog cd 20 Simage_Check := mk_ok (E := Eimage_Check) cd_ok fns43_ok Try.func20 (by kernel_rfl) (loops_of (addL_ok lpimage_Check_0 noL_ok)) (aA_ok cImage_ok (aNil_ok)) bNil_ok (T := fun x _ => Timage_Check none x.1) (fun _ _ => rfl) runimage_Check
noncomputable def fns20 := addF 20 true Simage_Check fns43
theorem fns20_ok : ∀ f q t, fns20 f = some (q, t) → FnOk Try.prog cd f t := addF_ok okimage_Check fns43_ok
/-- emulator/memory.within -/
noncomputable def Tmemory_within (x0 : (List Int)) (x1 : Int) (x2 : Int) : Tree Bool :=
  .ite (decide ((0 : Int) ≤ x1))
    (.ite (decide ((0 : Int) ≤ x2))
      (.ite (decide (x1 ≤ (IntKind.wrap .i64 ((2 : Int) * (x0.length : Int)))))
        (.leaf (decide (x2 ≤ (IntKind.wrap .i64 ((IntKind.wrap .i64 ((2 : Int) * (x0.length : Int))) - x1)))))
        (.leaf (false)))
      (.leaf (false)))
    (.leaf (false))
noncomputable def memory_within (x0 : (List Int)) (x1 : Int) (x2 : Int) : Option Bool := (Tmemory_within x0 x1 x2).run
noncomputable def Amemory_within : Arg U ((List Int) × Int × Int × Unit) := aO (cSl 3) (aO (cInt .i64) (aO (cInt .i64) (aNil)))
noncomputable def Rmemory_within (r : Bool) : List (V U) × List (Blk U) := ([vO cBool r], [])
noncomputable def Smemory_within : List (V U) → List (Blk U) → Option (FnOut U) := mkSpec Amemory_within bNil (fun x _ => memory_within x.1 x.2.1 x.2.2.1) Rmemory_within
noncomputable def Ememory_within : Env U := { P := Try.prog, cd := cd, fns := fns20, lps := noL, frz := fun _r => false, nt := 29, n0 := 0 }
theorem runmemory_within (x : (List Int) × Int × Int × Unit) (g : Unit) : execF Ememory_within Try.f26 (Amemory_within.enc x) (bNil.enc g) = (Tmemory_within x.1 x.2.1 x.2.2.1).map Rmemory_within := by kernel_rfl
theorem okmemory_within : FnOk Try.prog cd 26 Smemory_within := mk_ok (E := Ememory_within) cd_ok fns20_ok Try.func26 (by kernel_rfl) (noLoops_body (by kernel_rfl)) (aO_ok (cSl_ok 3) (aO_ok (cInt_ok .i64) (aO_ok (cInt_ok .i64) (aNil_ok)))) bNil_ok (T := fun x _ => Tmemory_within x.1 x.2.1 x.2.2.1) (fun _ _ => rfl) runmemory_within
noncomputable def fns26 := addF 26 true Smemory_within fns20
theorem fns26_ok : ∀ f q t, fns26 f = some (q, t) → FnOk Try.prog cd f t := addF_ok okmemory_within fns20_ok
/-- emulator/memory.copied -/
noncomputable def Tmemory_copied (x0 : (List Int)) : Tree (List Int) :=
  .ite (decide ((x0.length : Int) = (x0.length : Int)))
    (.ite (decide (0 ≤ (x0.length : Int)))
      (.ite (decide ((8 : Int) * (x0.length : Int) ≤ 281474976710656))
        (.leaf (x0.take (List.replicate ((x0.length : Int)).toNat (0 : Int)).length ++ (List.replicate ((x0.length : Int)).toNat (0 : Int)).drop x0.length))
        .fail)
      .fail)
    .fail
noncomputable def memory_copied (x0 : (List Int)) : Option (List Int) := (Tmemory_copied x0).run
noncomputable def Amemory_copied : Arg U ((List Int) × Unit) := aO (cSl 3) (aNil)
noncomputable def Gmemory_copied : Bls U (Unit) := bNil
noncomputable def Rmemory_copied (_x : (List Int) × Unit) (_g : Unit) (r : (List Int)) : List (V U) × List (Blk U) := ([vO (cK (.row 0 0) (cUnit)) (())], [.row 3 0 r])
noncomputable def Smemory_copied : List (V U) → List (Blk U) → Option (FnOut U) := mkSpecG Amemory_copied Gmemory_copied (fun x _ => memory_copied x.1) Rmemory_copied
noncomputable def Ememory_copied : Env U := { P := Try.prog, cd := cd, fns := fns26, lps := noL, frz := fun _r => false, nt := 11, n0 := 0 }
theorem rnmemory_copied (x0 : (List Int)) : execX true Ememory_copied Try.f44 (Amemory_copied.enc (x0, ())) (Gmemory_copied.enc ()) = (Tmemory_copied x0).map (Rmemory_copied (x0, ()) ()) := by kernel_rfl
theorem runmemory_copied : ∀ (x : (List Int) × Unit) (g : Unit), execX true Ememory_copied Try.f44 (Amemory_copied.enc x) (Gmemory_copied.enc g) = (Tmemory_copied x.1).map (Rmemory_copied x g)
  | (x0, ()), () => rnmemory_copied x0
theorem okmemory_copied : FnOk Try.prog cd 44 Smemory_copied := mk_okG (E := Ememory_copied) (A := Amemory_copied) (B := Gmemory_copied) true cd_ok fns26_ok Try.func44 (by kernel_rfl) (noLoops_body (by kernel_rfl)) (aO_ok (cSl_ok 3) (aNil_ok)) bNil_ok (T := fun (x : (List Int) × Unit) (_ : Unit) => Tmemory_copied x.1) (fun _ _ => rfl) runmemory_copied
/-- emulator/memory.Store -/
structure Smemory_Store_0 where
  t1 : Int
  t2 : (List UInt8)
  t21 : Int
  t22 : Int
  b0 : (List Int)
noncomputable def Wmemory_Store_0 (s : Smemory_Store_0) : Tree (Smemory_Store_0 ⊕ (List Int)) :=
  .ite (decide (s.t22 < s.t21))
    (.ite (decide ((2 : Int) = 0))
      .fail
      (.ite (decide ((2 : Int) = 0))
        .fail
        (.ite (decide ((2 : Int) = 0))
          .fail
          (.ite (decide (0 ≤ IntKind.wrap .i64 (((IntKind.wrap .i64 (s.t1 + s.t22))).tdiv (2 : Int))))
            (.ite (decide (IntKind.wrap .i64 (((IntKind.wrap .i64 (s.t1 + s.t22))).tdiv (2 : Int)) < (s.b0.length : Int)))
              (.opt Int (s.b0[(IntKind.wrap .i64 (((IntKind.wrap .i64 (s.t1 + s.t22))).tdiv (2 : Int))).toNat]?) fun y105 =>
                .ite (decide (0 ≤ (IntKind.wrap .i64 ((((IntKind.wrap .i64 (s.t1 + s.t22))).tmod (2 : Int)) * (8 : Int)))))
                  (.ite (decide (0 ≤ s.t22))
                    (.opt UInt8 (s.t2[(s.t22).toNat]?) fun y106 =>
                      .ite (decide (0 ≤ (IntKind.wrap .i64 ((((IntKind.wrap .i64 (s.t1 + s.t22))).tmod (2 : Int)) * (8 : Int)))))
                        (.ite (decide (0 ≤ IntKind.wrap .i64 (((IntKind.wrap .i64 (s.t1 + s.t22))).tdiv (2 : Int))))
                          (.ite (decide (IntKind.wrap .i64 (((IntKind.wrap .i64 (s.t1 + s.t22))).tdiv (2 : Int)) < (s.b0.length : Int)))
                            (.opt Int (s.b0[(IntKind.wrap .i64 (((IntKind.wrap .i64 (s.t1 + s.t22))).tdiv (2 : Int))).toNat]?) fun y107 =>
                              .leaf (.inl (Smemory_Store_0.mk s.t1 s.t2 s.t21 (IntKind.wrap .i64 (s.t22 + (1 : Int))) (s.b0.set ((IntKind.wrap .i64 (((IntKind.wrap .i64 (s.t1 + s.t22))).tdiv (2 : Int))).toNat) (IntKind.wrap .i64 (((BitVec.ofInt 64 (IntKind.wrap .i64 (((BitVec.ofInt 64 y105 &&& ~~~BitVec.ofInt 64 (IntKind.wrap .i64 ((255 : Int) * 2 ^ (min ((IntKind.wrap .i64 ((((IntKind.wrap .i64 (s.t1 + s.t22))).tmod (2 : Int)) * (8 : Int)))).toNat 64)))).toNat : Int))) ||| BitVec.ofInt 64 (IntKind.wrap .i64 ((IntKind.wrap .i64 (y106.toNat : Int)) * 2 ^ (min ((IntKind.wrap .i64 ((((IntKind.wrap .i64 (s.t1 + s.t22))).tmod (2 : Int)) * (8 : Int)))).toNat 64)))).toNat : Int)))))))
                            .fail)
                          .fail)
                        .fail)
                    .fail)
                  .fail)
              .fail)
            .fail))))
    (.leaf (.inr s.b0))
noncomputable def Lmemory_Store_0 (q : Option Nat) (s : Smemory_Store_0) : Option (List Int) := limQ q (fun s => (Wmemory_Store_0 s).run) s
theorem leLmemory_Store_0 (k : Nat) (s : Smemory_Store_0) : Le (Lmemory_Store_0 (some k) s) (Lmemory_Store_0 none s) := limQ_le (fun _ => Le.rfl) s
noncomputable def Tmemory_Store (q : Option Nat) (x0 : (List Int)) (x1 : Int) (x2 : (List UInt8)) : Tree ((List Int) × Int) :=
  .opt Bool (memory_within x0 x1 (x2.length : Int)) fun r103 =>
    .ite (!r103)
      (.leaf (([], (2 : Int))))
      (.opt (List Int) (memory_copied x0) fun r104 =>
        .opt (List Int) (Lmemory_Store_0 q (Smemory_Store_0.mk x1 x2 (x2.length : Int) (0 : Int) r104)) fun l108 =>
          .leaf ((l108, (0 : Int))))
noncomputable def memory_Store (q : Option Nat) (x0 : (List Int)) (x1 : Int) (x2 : (List UInt8)) : Option ((List Int) × Int) := (Tmemory_Store q x0 x1 x2).run
theorem lememory_Store (k : Nat) (x0 : (List Int)) (x1 : Int) (x2 : (List UInt8)) : Le (memory_Store (some k) x0 x1 x2) (memory_Store none x0 x1 x2) := (TLe.opt Le.rfl fun _ => (TLe.ite TLe.rfl (TLe.opt Le.rfl fun _ => (TLe.opt (leLmemory_Store_0 k _) fun _ => TLe.rfl))))
noncomputable def Amemory_Store : Arg U ((List Int) × Int × (List UInt8) × Unit) := aO (cSl 3) (aO (cInt .i64) (aO cStr (aNil)))
noncomputable def Rmemory_Store (r : ((List Int) × Int)) : List (V U) × List (Blk U) := ([vO (cSl 3) r.1, vO (cInt .i64) r.2], [])
noncomputable def Smemory_Store : List (V U) → List (Blk U) → Option (FnOut U) := mkSpec Amemory_Store bNil (fun x _ => memory_Store none x.1 x.2.1 x.2.2.1) Rmemory_Store
noncomputable def Pmemory_Store_0 (x : (Int × Unit) × ((List UInt8) × Unit) × (Unit) × (Int × Unit) × (Int × Unit) × Unit) (g : (List Int) × Unit) : Smemory_Store_0 := Smemory_Store_0.mk x.1.1 x.2.1.1 x.2.2.2.1.1 x.2.2.2.2.1.1 g.1
noncomputable def tAmemory_Store_0 : Tms U ((Int × Unit) × ((List UInt8) × Unit) × (Unit) × (Int × Unit) × (Int × Unit) × Unit) := tO 1 (cPair (cInt .i64) (cUnit)) (tO 2 (cPair cStr (cUnit)) (tO 8 (cK (.row 0 0) (cUnit)) (tO 21 (cPair (cInt .i64) (cUnit)) (tO 22 (cPair (cInt .i64) (cUnit)) (tNil)))))
noncomputable def tBmemory_Store_0 : Bls U ((List Int) × Unit) := bRv 3 0 (bNil)
noncomputable def eSmemory_Store_0 (s : Smemory_Store_0) : St U := { tm := [(1, .v (vO (cPair (cInt .i64) (cUnit)) (s.t1, ()))), (2, .v (vO (cPair cStr (cUnit)) (s.t2, ()))), (8, .v (vO (cK (.row 0 0) (cUnit)) (()))), (21, .v (vO (cPair (cInt .i64) (cUnit)) (s.t21, ()))), (22, .v (vO (cPair (cInt .i64) (cUnit)) (s.t22, ())))], hp := [.row 3 0 s.b0] }
noncomputable def xSmemory_Store_0 (r : (List Int)) : Ex × St U := (.exit 0, { tm := [(8, .v (vO (cK (.row 0 0) (cUnit)) (())))], hp := [.row 3 0 r] })
noncomputable def xTmemory_Store_0 (r : (List Int)) : Tree (Ex × St U) := .leaf (xSmemory_Store_0 r)
noncomputable def hmemory_Store_0 : Hd := { keep := [1, 2, 8, 21, 22], xkeep := [6, 7, 8], own := false }
noncomputable def Ememory_Store : Env U := { P := Try.prog, cd := cd, fns := (addF 44 false (Smemory_copied) fns26), lps := (addL 0 hmemory_Store_0 (mkLoop tAmemory_Store_0 tBmemory_Store_0 Pmemory_Store_0 (Lmemory_Store_0 none) xTmemory_Store_0) noL), frz := fun _r => false, nt := 52, n0 := 0 }
noncomputable def Bmemory_Store_0 : Code := (loopAt (Try.f21.body.getD .skip) 0 0).getD .skip
theorem roundmemory_Store_0 (s : Smemory_Store_0) : round Ememory_Store hmemory_Store_0 Bmemory_Store_0 0 (eSmemory_Store_0 s) = (Wmemory_Store_0 s).map (sumE eSmemory_Store_0 xSmemory_Store_0) := by kernel_rfl
theorem lpmemory_Store_0 : LpOk Ememory_Store Bmemory_Store_0 0 := mkLoop_ok (A := tAmemory_Store_0) (B := tBmemory_Store_0) (f := Pmemory_Store_0) (L := Lmemory_Store_0 none) (tO_ok (cPair_ok (cInt_ok .i64) cUnit_ok) (tO_ok (cPair_ok cStr_ok cUnit_ok) (tO_ok (cK_ok cUnit_ok) (tO_ok (cPair_ok (cInt_ok .i64) cUnit_ok) (tO_ok (cPair_ok (cInt_ok .i64) cUnit_ok) tNil_ok))))) (bRv_ok bNil_ok) (enc := eSmemory_Store_0) (out := xTmemory_Store_0) (outS := xSmemory_Store_0) (step := Wmemory_Store_0) (fun _ => rfl) (fun _ _ => by kernel_rfl) (by kernel_rfl) (fun _ => rfl) roundmemory_Store_0
theorem runmemory_Store (x : (List Int) × Int × (List UInt8) × Unit) (g : Unit) : execF Ememory_Store Try.f21 (Amemory_Store.enc x) (bNil.enc g) = (Tmemory_Store none x.1 x.2.1 x.2.2.1).map Rmemory_Store := by kernel_rfl
theorem okmemory_Store : FnOk Try.prog cd 21 Smemory_Store := mk_ok (E := Ememory_Store) cd_ok (addF_ok okmemory_copied fns26_ok) Try.func21 (by kernel_rfl) (loops_of (addL_ok lpmemory_Store_0 noL_ok)) (aO_ok (cSl_ok 3) (aO_ok (cInt_ok .i64) (aO_ok cStr_ok (aNil_ok)))) bNil_ok (T := fun x _ => Tmemory_Store none x.1 x.2.1 x.2.2.1) (fun _ _ => rfl) runmemory_Store
noncomputable def fns21 := addF 21 true Smemory_Store fns26
theorem fns21_ok : ∀ f q t, fns21 f = some (q, t) → FnOk Try.prog cd f t := addF_ok okmemory_Store fns26_ok
/-- strings.Repeat -/
noncomputable def strings_Repeat (x0 : (List UInt8)) (x1 : Int) : Option (List UInt8) := repF x0 x1
noncomputable def Sstrings_Repeat : List (V U) → List (Blk U) → Option (FnOut U) := mkSpec (aO cStr (aO (cInt .i64) aNil) : Arg U (List UInt8 × Int × Unit)) bNil (fun x _ => strings_Repeat x.1 x.2.1) fun r => ([vO cStr r], [])
end Go.Proofs.Ytlaabdpccdnalaa
namespace Go.Proofs
open Go.Shelf
shelf_lay Lays.n105 Nm 105 at Try as Try.lays22
theorem Try.extra22 : Builder.Extra Try.prog Try.lays22_ren where
  sizeBuilder := by kernel_rfl
  liesBuilder := by kernel_rfl
  t5 := Try.underlying5
  a5 := Try.isAgg5
  z5 := Try.sizeOf5
  v5 := Try.zeroValue5
  infoByte := by kernel_rfl
  cellsByte := by kernel_rfl
  sizeByte := by kernel_rfl
  neB5 := by decide
end Go.Proofs
namespace Go.Proofs.Ytlaabdpccdnalaa
open Go Go.Ab
theorem okstrings_Repeat : FnOk Try.prog cd 22 Sstrings_Repeat := rep_ok Try.lays22 Try.extra22 Try.func22 (by kernel_rfl) (by kernel_rfl) rfl
noncomputable def fns22 := addF 22 true Sstrings_Repeat fns21
theorem fns22_ok : ∀ f q t, fns22 f = some (q, t) → FnOk Try.prog cd f t := addF_ok okstrings_Repeat fns21_ok
end Go.Proofs.Ytlaabdpccdnalaa
namespace Go.Proofs
shelf_lay_g SlLaysE0.n41 Slgn 41 at Try 24 as Try.lays24
end Go.Proofs
namespace Go.Proofs.Ytlaabdpccdnalaa
open Go Go.Ab
theorem okslices_Clone_int_int : FnOk Try.prog cd 24 (cloneSpec 3 8) := clone_ok2 cd_ok Try.lays24 Try.func24 (by kernel_rfl) (by kernel_rfl) rfl rfl (by kernel_rfl)
/-- emulator/image.Load$1 -/
noncomputable def Timage_Load_1 (x0 : Int) (g0 : Int) (g1 : Int) : Tree Bool :=
  .ite (decide (g0 ≤ x0))
    (.leaf (decide (x0 < (IntKind.wrap .i64 (g0 + g1)))))
    (.leaf (false))
noncomputable def image_Load_1 (x0 : Int) (g0 : Int) (g1 : Int) : Option Bool := (Timage_Load_1 x0 g0 g1).run
noncomputable def Aimage_Load_1 : Arg U (Int × Unit) := aO (cInt .i64) (aP 0 0 (aP 1 0 (aNil)))
noncomputable def Gimage_Load_1 : Bls U (Int × Int × Unit) := bC (cInt .i64) (bC (cInt .i64) (bNil))
noncomputable def Rimage_Load_1 (_x : Int × Unit) (g : Int × Int × Unit) (r : Bool) : List (V U) × List (Blk U) := ([vO (cPair cBool (cUnit)) (r, ())], [.cells (((cInt .i64) : Cdc U Int).enc g.1), .cells (((cInt .i64) : Cdc U Int).enc g.2.1)])
noncomputable def Simage_Load_1 : List (V U) → List (Blk U) → Option (FnOut U) := mkSpecG Aimage_Load_1 Gimage_Load_1 (fun x g => image_Load_1 x.1 g.1 g.2.1) Rimage_Load_1
noncomputable def Eimage_Load_1 : Env U := { P := Try.prog, cd := cd, fns := fns22, lps := noL, frz := fun _r => false, nt := 15, n0 := 2 }
theorem rnimage_Load_1 (x0 : Int) (g0 : Int) (g1 : Int) : execX false Eimage_Load_1 Try.f25 (Aimage_Load_1.enc (x0, ())) (Gimage_Load_1.enc (g0, g1, ())) = (Timage_Load_1 x0 g0 g1).map (Rimage_Load_1 (x0, ()) (g0, g1, ())) := by kernel_rfl
theorem runimage_Load_1 : ∀ (x : Int × Unit) (g : Int × Int × Unit), execX false Eimage_Load_1 Try.f25 (Aimage_Load_1.enc x) (Gimage_Load_1.enc g) = (Timage_Load_1 x.1 g.1 g.2.1).map (Rimage_Load_1 x g)
  | (x0, ()), (g0, g1, ()) => rnimage_Load_1 x0 g0 g1
theorem okimage_Load_1 : FnOk Try.prog cd 25 Simage_Load_1 := mk_okG (E := Eimage_Load_1) (A := Aimage_Load_1) (B := Gimage_Load_1) false cd_ok fns22_ok Try.func25 (by kernel_rfl) (noLoops_body (by kernel_rfl)) (aO_ok (cInt_ok .i64) (aP_ok (aP_ok (aNil_ok)))) (bC_ok (cInt_ok .i64) (bC_ok (cInt_ok .i64) bNil_ok)) (T := fun (x : Int × Unit) (g : Int × Int × Unit) => Timage_Load_1 x.1 g.1 g.2.1) (fun _ _ => rfl) runimage_Load_1
/-- slices.IndexFunc[[]int,int] -/
structure Sslices_IndexFunc_int_int_0 where
  t7 : Int
  t8 : Int
  b0 : (List Int)
  b1_0 : Int
  b2_0 : Int
noncomputable def Wslices_IndexFunc_int_int_0 (s : Sslices_IndexFunc_int_int_0) : Tree (Sslices_IndexFunc_int_int_0 ⊕ ((Int × (List Int) × Int × Int) ⊕ ((List Int) × Int × Int))) :=
  .ite (decide (s.t8 < s.t7))
    (.ite (decide (0 ≤ s.t8))
      (.ite (decide (s.t8 < (s.b0.length : Int)))
        (.opt Int (s.b0[(s.t8).toNat]?) fun y120 =>
          .opt Bool (image_Load_1 y120 s.b1_0 s.b2_0) fun r121 =>
            .ite (r121)
              (.leaf (.inr (.inl (s.t8, s.b0, s.b1_0, s.b2_0))))
              (.leaf (.inl (Sslices_IndexFunc_int_int_0.mk s.t7 (IntKind.wrap .i64 (s.t8 + (1 : Int))) s.b0 s.b1_0 s.b2_0))))
        .fail)
      .fail)
    (.leaf (.inr (.inr (s.b0, s.b1_0, s.b2_0))))
noncomputable def Lslices_IndexFunc_int_int_0 (q : Option Nat) (s : Sslices_IndexFunc_int_int_0) : Option ((Int × (List Int) × Int × Int) ⊕ ((List Int) × Int × Int)) := limQ q (fun s => (Wslices_IndexFunc_int_int_0 s).run) s
theorem leLslices_IndexFunc_int_int_0 (k : Nat) (s : Sslices_IndexFunc_int_int_0) : Le (Lslices_IndexFunc_int_int_0 (some k) s) (Lslices_IndexFunc_int_int_0 none s) := limQ_le (fun _ => Le.rfl) s
noncomputable def Tslices_IndexFunc_int_int (q : Option Nat) (g0 : (List Int)) (g1 : Int) (g2 : Int) : Tree (Int × (List Int) × Int × Int) :=
  .opt ((Int × (List Int) × Int × Int) ⊕ ((List Int) × Int × Int)) (Lslices_IndexFunc_int_int_0 q (Sslices_IndexFunc_int_int_0.mk (g0.length : Int) (0 : Int) g0 g1 g2)) fun l122 =>
    .ite (l122.isLeft)
      (.opt (Int × (List Int) × Int × Int) (l122.getLeft?) fun a123 =>
        .leaf ((a123.1, a123.2.1, a123.2.2.1, a123.2.2.2)))
      (.opt ((List Int) × Int × Int) (l122.getRight?) fun b124 =>
        .leaf (((-1 : Int), b124.1, b124.2.1, b124.2.2)))
noncomputable def slices_IndexFunc_int_int (q : Option Nat) (g0 : (List Int)) (g1 : Int) (g2 : Int) : Option (Int × (List Int) × Int × Int) := (Tslices_IndexFunc_int_int q g0 g1 g2).run
theorem leslices_IndexFunc_int_int (k : Nat) (g0 : (List Int)) (g1 : Int) (g2 : Int) : Le (slices_IndexFunc_int_int (some k) g0 g1 g2) (slices_IndexFunc_int_int none g0 g1 g2) := (TLe.opt (leLslices_IndexFunc_int_int_0 k _) fun _ => TLe.rfl)
noncomputable def Aslices_IndexFunc_int_int : Arg U (Unit) := aR 0 (aF 25 [(.ptr 1 0), (.ptr 2 0)] (aNil))
noncomputable def Gslices_IndexFunc_int_int : Bls U ((List Int) × Int × Int × Unit) := bR 3 (bC (cInt .i64) (bC (cInt .i64) (bNil)))
noncomputable def Rslices_IndexFunc_int_int (_x : Unit) (_g : (List Int) × Int × Int × Unit) (r : (Int × (List Int) × Int × Int)) : List (V U) × List (Blk U) := ([vO (cPair (cInt .i64) (cUnit)) (r.1, ())], [.row 3 0 r.2.1, .cells ((cPair (cInt .i64) (cUnit) : Cdc U (Int × Unit)).enc (r.2.2.1, ())), .cells ((cPair (cInt .i64) (cUnit) : Cdc U (Int × Unit)).enc (r.2.2.2, ()))])
noncomputable def Sslices_IndexFunc_int_int : List (V U) → List (Blk U) → Option (FnOut U) := mkSpecG Aslices_IndexFunc_int_int Gslices_IndexFunc_int_int (fun x g => slices_IndexFunc_int_int none g.1 g.2.1 g.2.2.1) Rslices_IndexFunc_int_int
noncomputable def Pslices_IndexFunc_int_int_0 (x : (Unit) × (Unit) × (Int × Unit) × (Int × Unit) × Unit) (g : (List Int) × (Int × Unit) × (Int × Unit) × Unit) : Sslices_IndexFunc_int_int_0 := Sslices_IndexFunc_int_int_0.mk x.2.2.1.1 x.2.2.2.1.1 g.1 g.2.1.1 g.2.2.1.1
noncomputable def tAslices_IndexFunc_int_int_0 : Tms U ((Unit) × (Unit) × (Int × Unit) × (Int × Unit) × Unit) := tO 0 (cK (.row 0 0) (cUnit)) (tO 1 (cK2 (.fn 25 [] [(.ptr 1 0), (.ptr 2 0)]) (cUnit)) (tO 7 (cPair (cInt .i64) (cUnit)) (tO 8 (cPair (cInt .i64) (cUnit)) (tNil))))
noncomputable def tBslices_IndexFunc_int_int_0 : Bls U ((List Int) × (Int × Unit) × (Int × Unit) × Unit) := bRv 3 0 (bC (cPair (cInt .i64) (cUnit)) (bC (cPair (cInt .i64) (cUnit)) (bNil)))
noncomputable def eSslices_IndexFunc_int_int_0 (s : Sslices_IndexFunc_int_int_0) : St U := { tm := [(0, .v (vO (cK (.row 0 0) (cUnit)) (()))), (1, .v (vO (cK2 (.fn 25 [] [(.ptr 1 0), (.ptr 2 0)]) (cUnit)) (()))), (7, .v (vO (cPair (cInt .i64) (cUnit)) (s.t7, ()))), (8, .v (vO (cPair (cInt .i64) (cUnit)) (s.t8, ())))], hp := [.row 3 0 s.b0, .cells ((cPair (cInt .i64) (cUnit) : Cdc U (Int × Unit)).enc (s.b1_0, ())), .cells ((cPair (cInt .i64) (cUnit) : Cdc U (Int × Unit)).enc (s.b2_0, ()))] }
noncomputable def xSslices_IndexFunc_int_int_0 : ((Int × (List Int) × Int × Int) ⊕ ((List Int) × Int × Int)) → Ex × St U
  | .inl r => (.ret, { tm := [(4, .v (vO (cPair (cInt .i64) (cUnit)) (r.1, ())))], hp := [.row 3 0 r.2.1, .cells ((cPair (cInt .i64) (cUnit) : Cdc U (Int × Unit)).enc (r.2.2.1, ())), .cells ((cPair (cInt .i64) (cUnit) : Cdc U (Int × Unit)).enc (r.2.2.2, ()))] })
  | .inr r => (.exit 0, { tm := [], hp := [.row 3 0 r.1, .cells ((cPair (cInt .i64) (cUnit) : Cdc U (Int × Unit)).enc (r.2.1, ())), .cells ((cPair (cInt .i64) (cUnit) : Cdc U (Int × Unit)).enc (r.2.2, ()))] })
noncomputable def xTslices_IndexFunc_int_int_0 (y : ((Int × (List Int) × Int × Int) ⊕ ((List Int) × Int × Int))) : Tree (Ex × St U) := .ite y.isLeft (.opt (Int × (List Int) × Int × Int) y.getLeft? fun r => .leaf (.ret, { tm := [(4, .v (vO (cPair (cInt .i64) (cUnit)) (r.1, ())))], hp := [.row 3 0 r.2.1, .cells ((cPair (cInt .i64) (cUnit) : Cdc U (Int × Unit)).enc (r.2.2.1, ())), .cells ((cPair (cInt .i64) (cUnit) : Cdc U (Int × Unit)).enc (r.2.2.2, ()))] })) (.opt ((List Int) × Int × Int) y.getRight? fun r => .leaf (.exit 0, { tm := [], hp := [.row 3 0 r.1, .cells ((cPair (cInt .i64) (cUnit) : Cdc U (Int × Unit)).enc (r.2.1, ())), .cells ((cPair (cInt .i64) (cUnit) : Cdc U (Int × Unit)).enc (r.2.2, ()))] }))
noncomputable def hslices_IndexFunc_int_int_0 : Hd := { keep := [0, 1, 7, 8], xkeep := [4], own := false }
noncomputable def Eslices_IndexFunc_int_int : Env U := { P := Try.prog, cd := cd, fns := (addF 25 false (Simage_Load_1) fns22), lps := (addL 0 hslices_IndexFunc_int_int_0 (mkLoop tAslices_IndexFunc_int_int_0 tBslices_IndexFunc_int_int_0 Pslices_IndexFunc_int_int_0 (Lslices_IndexFunc_int_int_0 none) xTslices_IndexFunc_int_int_0) noL), frz := fun _r => false, nt := 19, n0 := 3 }
noncomputable def Bslices_IndexFunc_int_int_0 : Code := (loopAt (Try.f51.body.getD .skip) 0 0).getD .skip
theorem roundslices_IndexFunc_int_int_0 (s : Sslices_IndexFunc_int_int_0) : round Eslices_IndexFunc_int_int hslices_IndexFunc_int_int_0 Bslices_IndexFunc_int_int_0 0 (eSslices_IndexFunc_int_int_0 s) = (Wslices_IndexFunc_int_int_0 s).map (sumE eSslices_IndexFunc_int_int_0 xSslices_IndexFunc_int_int_0) := by kernel_rfl
theorem lpslices_IndexFunc_int_int_0 : LpOk Eslices_IndexFunc_int_int Bslices_IndexFunc_int_int_0 0 := mkLoop_ok (A := tAslices_IndexFunc_int_int_0) (B := tBslices_IndexFunc_int_int_0) (f := Pslices_IndexFunc_int_int_0) (L := Lslices_IndexFunc_int_int_0 none) (tO_ok (cK_ok cUnit_ok) (tO_ok (cK2_ok cUnit_ok) (tO_ok (cPair_ok (cInt_ok .i64) cUnit_ok) (tO_ok (cPair_ok (cInt_ok .i64) cUnit_ok) tNil_ok)))) (bRv_ok (bC_ok (cPair_ok (cInt_ok .i64) cUnit_ok) (bC_ok (cPair_ok (cInt_ok .i64) cUnit_ok) bNil_ok))) (enc := eSslices_IndexFunc_int_int_0) (out := xTslices_IndexFunc_int_int_0) (outS := xSslices_IndexFunc_int_int_0) (step := Wslices_IndexFunc_int_int_0) (fun _ => rfl) (fun _ _ => by kernel_rfl) (by kernel_rfl) (fun b => by cases b <;> rfl) roundslices_IndexFunc_int_int_0
theorem rnslices_IndexFunc_int_int (g0 : (List Int)) (g1 : Int) (g2 : Int) : execX false Eslices_IndexFunc_int_int Try.f51 (Aslices_IndexFunc_int_int.enc ()) (Gslices_IndexFunc_int_int.enc (g0, g1, g2, ())) = (Tslices_IndexFunc_int_int none g0 g1 g2).map (Rslices_IndexFunc_int_int () (g0, g1, g2, ())) := by kernel_rfl
theorem runslices_IndexFunc_int_int : ∀ (x : Unit) (g : (List Int) × Int × Int × Unit), execX false Eslices_IndexFunc_int_int Try.f51 (Aslices_IndexFunc_int_int.enc x) (Gslices_IndexFunc_int_int.enc g) = (Tslices_IndexFunc_int_int none g.1 g.2.1 g.2.2.1).map (Rslices_IndexFunc_int_int x g)
  | (), (g0, g1, g2, ()) => rnslices_IndexFunc_int_int g0 g1 g2
theorem okslices_IndexFunc_int_int : FnOk Try.prog cd 51 Sslices_IndexFunc_int_int := mk_okG (E := Eslices_IndexFunc_int_int) (A := Aslices_IndexFunc_int_int) (B := Gslices_IndexFunc_int_int) false cd_ok (addF_ok okimage_Load_1 fns22_ok) Try.func51 (by kernel_rfl) (loops_of (addL_ok lpslices_IndexFunc_int_int_0 noL_ok)) (aR_ok (aF_ok (aNil_ok))) (bR_ok (bC_ok (cInt_ok .i64) (bC_ok (cInt_ok .i64) bNil_ok))) (T := fun (x : Unit) (g : (List Int) × Int × Int × Unit) => Tslices_IndexFunc_int_int none g.1 g.2.1 g.2.2.1) (fun _ _ => rfl) runslices_IndexFunc_int_int
/-- slices.DeleteFunc[[]int,int] -/
structure Sslices_DeleteFunc_int_int_0 where
  t5 : Int
  t6 : Int
  b0 : (List Int)
  b1_0 : Int
  b2_0 : Int
noncomputable def Wslices_DeleteFunc_int_int_0 (s : Sslices_DeleteFunc_int_int_0) : Tree (Sslices_DeleteFunc_int_int_0 ⊕ (Int × (List Int) × Int × Int)) :=
  .ite (decide (s.t6 < (s.b0.length : Int)))
    (.ite (decide (0 ≤ s.t6))
      (.ite (decide (s.t6 < (s.b0.length : Int)))
        (.opt Int (s.b0[(s.t6).toNat]?) fun y126 =>
          .opt Bool (image_Load_1 y126 s.b1_0 s.b2_0) fun r127 =>
            .ite (!r127)
              (.ite (decide (0 ≤ s.t5))
                (.ite (decide (s.t5 < (s.b0.length : Int)))
                  (.opt Int (s.b0[(s.t5).toNat]?) fun y128 =>
                    .leaf (.inl (Sslices_DeleteFunc_int_int_0.mk (IntKind.wrap .i64 (s.t5 + (1 : Int))) (IntKind.wrap .i64 (s.t6 + (1 : Int))) (s.b0.set ((s.t5).toNat) y126) s.b1_0 s.b2_0)))
                  .fail)
                .fail)
              (.leaf (.inl (Sslices_DeleteFunc_int_int_0.mk s.t5 (IntKind.wrap .i64 (s.t6 + (1 : Int))) s.b0 s.b1_0 s.b2_0))))
        .fail)
      .fail)
    (.leaf (.inr (s.t5, s.b0, s.b1_0, s.b2_0)))
noncomputable def Lslices_DeleteFunc_int_int_0 (q : Option Nat) (s : Sslices_DeleteFunc_int_int_0) : Option (Int × (List Int) × Int × Int) := limQ q (fun s => (Wslices_DeleteFunc_int_int_0 s).run) s
theorem leLslices_DeleteFunc_int_int_0 (k : Nat) (s : Sslices_DeleteFunc_int_int_0) : Le (Lslices_DeleteFunc_int_int_0 (some k) s) (Lslices_DeleteFunc_int_int_0 none s) := limQ_le (fun _ => Le.rfl) s
noncomputable def Tslices_DeleteFunc_int_int (q : Option Nat) (g0 : (List Int)) (g1 : Int) (g2 : Int) : Tree (((List Int) × Int × Int) ⊕ ((Nat × Nat) × (List Int) × Int × Int)) :=
  .opt (Int × (List Int) × Int × Int) (slices_IndexFunc_int_int q g0 g1 g2) fun r125 =>
    .ite (decide (r125.1 = (-1 : Int)))
      (.leaf (.inl (r125.2.1, r125.2.2.1, r125.2.2.2)))
      (.opt (Int × (List Int) × Int × Int) (Lslices_DeleteFunc_int_int_0 q (Sslices_DeleteFunc_int_int_0.mk r125.1 (IntKind.wrap .i64 (r125.1 + (1 : Int))) r125.2.1 r125.2.2.1 r125.2.2.2)) fun l129 =>
        .ite (decide (0 ≤ l129.1))
          (.ite (decide (l129.1 ≤ ((l129.2.1.length : Nat) : Int)))
            (.ite (decide (0 ≤ l129.1))
              (.ite (decide (l129.1 ≤ (((l129.2.1.take ((l129.1).toNat) ++ List.replicate (l129.2.1.length - (l129.1).toNat) (0 : Int) ++ l129.2.1.drop ((l129.1).toNat + (l129.2.1.length - (l129.1).toNat))).length : Nat) : Int)))
                (.leaf (.inr ((0, (l129.1).toNat - 0), l129.2.1.take ((l129.1).toNat) ++ List.replicate (l129.2.1.length - (l129.1).toNat) (0 : Int) ++ l129.2.1.drop ((l129.1).toNat + (l129.2.1.length - (l129.1).toNat)), l129.2.2.1, l129.2.2.2)))
                .fail)
              .fail)
            .fail)
          .fail)
noncomputable def slices_DeleteFunc_int_int (q : Option Nat) (g0 : (List Int)) (g1 : Int) (g2 : Int) : Option (((List Int) × Int × Int) ⊕ ((Nat × Nat) × (List Int) × Int × Int)) := (Tslices_DeleteFunc_int_int q g0 g1 g2).run
theorem leslices_DeleteFunc_int_int (k : Nat) (g0 : (List Int)) (g1 : Int) (g2 : Int) : Le (slices_DeleteFunc_int_int (some k) g0 g1 g2) (slices_DeleteFunc_int_int none g0 g1 g2) := (TLe.opt (leslices_IndexFunc_int_int k _ _ _) fun _ => (TLe.ite TLe.rfl (TLe.opt (leLslices_DeleteFunc_int_int_0 k _) fun _ => TLe.rfl)))
noncomputable def Aslices_DeleteFunc_int_int : Arg U (Unit) := aR 0 (aF 25 [(.ptr 1 0), (.ptr 2 0)] (aNil))
noncomputable def Gslices_DeleteFunc_int_int : Bls U ((List Int) × Int × Int × Unit) := bR 3 (bC (cInt .i64) (bC (cInt .i64) (bNil)))
noncomputable def Rslices_DeleteFunc_int_int (_x : Unit) (_g : (List Int) × Int × Int × Unit) (r : ((List Int) × Int × Int)) : List (V U) × List (Blk U) := ([vO (cK (.row 0 0) (cUnit)) (())], [.row 3 0 r.1, .cells ((cPair (cInt .i64) (cUnit) : Cdc U (Int × Unit)).enc (r.2.1, ())), .cells ((cPair (cInt .i64) (cUnit) : Cdc U (Int × Unit)).enc (r.2.2, ()))])
noncomputable def Rslices_DeleteFunc_int_intb (_x : Unit) (_g : (List Int) × Int × Int × Unit) (r : ((Nat × Nat) × (List Int) × Int × Int)) : List (V U) × List (Blk U) := ([vO (cPair (cOwn 0 0) (cUnit)) (r.1, ())], [.row 3 0 r.2.1, .cells ((cPair (cInt .i64) (cUnit) : Cdc U (Int × Unit)).enc (r.2.2.1, ())), .cells ((cPair (cInt .i64) (cUnit) : Cdc U (Int × Unit)).enc (r.2.2.2, ()))])
noncomputable def Sslices_DeleteFunc_int_int : List (V U) → List (Blk U) → Option (FnOut U) := mkSpecG2 Aslices_DeleteFunc_int_int Gslices_DeleteFunc_int_int (fun x g => slices_DeleteFunc_int_int none g.1 g.2.1 g.2.2.1) Rslices_DeleteFunc_int_int Rslices_DeleteFunc_int_intb
noncomputable def Pslices_DeleteFunc_int_int_0 (x : (Unit) × (Unit) × (Int × Unit) × (Int × Unit) × Unit) (g : (List Int) × (Int × Unit) × (Int × Unit) × Unit) : Sslices_DeleteFunc_int_int_0 := Sslices_DeleteFunc_int_int_0.mk x.2.2.1.1 x.2.2.2.1.1 g.1 g.2.1.1 g.2.2.1.1
noncomputable def tAslices_DeleteFunc_int_int_0 : Tms U ((Unit) × (Unit) × (Int × Unit) × (Int × Unit) × Unit) := tO 0 (cK (.row 0 0) (cUnit)) (tO 1 (cK2 (.fn 25 [] [(.ptr 1 0), (.ptr 2 0)]) (cUnit)) (tO 5 (cPair (cInt .i64) (cUnit)) (tO 6 (cPair (cInt .i64) (cUnit)) (tNil))))
noncomputable def tBslices_DeleteFunc_int_int_0 : Bls U ((List Int) × (Int × Unit) × (Int × Unit) × Unit) := bRv 3 0 (bC (cPair (cInt .i64) (cUnit)) (bC (cPair (cInt .i64) (cUnit)) (bNil)))
noncomputable def eSslices_DeleteFunc_int_int_0 (s : Sslices_DeleteFunc_int_int_0) : St U := { tm := [(0, .v (vO (cK (.row 0 0) (cUnit)) (()))), (1, .v (vO (cK2 (.fn 25 [] [(.ptr 1 0), (.ptr 2 0)]) (cUnit)) (()))), (5, .v (vO (cPair (cInt .i64) (cUnit)) (s.t5, ()))), (6, .v (vO (cPair (cInt .i64) (cUnit)) (s.t6, ())))], hp := [.row 3 0 s.b0, .cells ((cPair (cInt .i64) (cUnit) : Cdc U (Int × Unit)).enc (s.b1_0, ())), .cells ((cPair (cInt .i64) (cUnit) : Cdc U (Int × Unit)).enc (s.b2_0, ()))] }
noncomputable def xSslices_DeleteFunc_int_int_0 (r : (Int × (List Int) × Int × Int)) : Ex × St U := (.exit 0, { tm := [(0, .v (vO (cK (.row 0 0) (cUnit)) (()))), (5, .v (vO (cPair (cInt .i64) (cUnit)) (r.1, ())))], hp := [.row 3 0 r.2.1, .cells ((cPair (cInt .i64) (cUnit) : Cdc U (Int × Unit)).enc (r.2.2.1, ())), .cells ((cPair (cInt .i64) (cUnit) : Cdc U (Int × Unit)).enc (r.2.2.2, ()))] })
noncomputable def xTslices_DeleteFunc_int_int_0 (r : (Int × (List Int) × Int × Int)) : Tree (Ex × St U) := .leaf (xSslices_DeleteFunc_int_int_0 r)
noncomputable def hslices_DeleteFunc_int_int_0 : Hd := { keep := [0, 1, 5, 6], xkeep := [0, 4, 5], own := false }
noncomputable def Eslices_DeleteFunc_int_int : Env U := { P := Try.prog, cd := cd, fns := (addF 51 false (Sslices_IndexFunc_int_int) (addF 25 false (Simage_Load_1) fns22)), lps := (addL 0 hslices_DeleteFunc_int_int_0 (mkLoop tAslices_DeleteFunc_int_int_0 tBslices_DeleteFunc_int_int_0 Pslices_DeleteFunc_int_int_0 (Lslices_DeleteFunc_int_int_0 none) xTslices_DeleteFunc_int_int_0) noL), frz := fun _r => false, nt := 42, n0 := 3 }
noncomputable def Bslices_DeleteFunc_int_int_0 : Code := (loopAt (Try.f23.body.getD .skip) 0 0).getD .skip
theorem roundslices_DeleteFunc_int_int_0 (s : Sslices_DeleteFunc_int_int_0) : round Eslices_DeleteFunc_int_int hslices_DeleteFunc_int_int_0 Bslices_DeleteFunc_int_int_0 0 (eSslices_DeleteFunc_int_int_0 s) = (Wslices_DeleteFunc_int_int_0 s).map (sumE eSslices_DeleteFunc_int_int_0 xSslices_DeleteFunc_int_int_0) := by kernel_rfl
theorem lpslices_DeleteFunc_int_int_0 : LpOk Eslices_DeleteFunc_int_int Bslices_DeleteFunc_int_int_0 0 := mkLoop_ok (A := tAslices_DeleteFunc_int_int_0) (B := tBslices_DeleteFunc_int_int_0) (f := Pslices_DeleteFunc_int_int_0) (L := Lslices_DeleteFunc_int_int_0 none) (tO_ok (cK_ok cUnit_ok) (tO_ok (cK2_ok cUnit_ok) (tO_ok (cPair_ok (cInt_ok .i64) cUnit_ok) (tO_ok (cPair_ok (cInt_ok .i64) cUnit_ok) tNil_ok)))) (bRv_ok (bC_ok (cPair_ok (cInt_ok .i64) cUnit_ok) (bC_ok (cPair_ok (cInt_ok .i64) cUnit_ok) bNil_ok))) (enc := eSslices_DeleteFunc_int_int_0) (out := xTslices_DeleteFunc_int_int_0) (outS := xSslices_DeleteFunc_int_int_0) (step := Wslices_DeleteFunc_int_int_0) (fun _ => rfl) (fun _ _ => by kernel_rfl) (by kernel_rfl) (fun _ => rfl) roundslices_DeleteFunc_int_int_0
theorem rnslices_DeleteFunc_int_int (g0 : (List Int)) (g1 : Int) (g2 : Int) : execX false Eslices_DeleteFunc_int_int Try.f23 (Aslices_DeleteFunc_int_int.enc ()) (Gslices_DeleteFunc_int_int.enc (g0, g1, g2, ())) = (Tslices_DeleteFunc_int_int none g0 g1 g2).map ((Sum.elim (Rslices_DeleteFunc_int_int () (g0, g1, g2, ())) (Rslices_DeleteFunc_int_intb () (g0, g1, g2, ())))) := by kernel_rfl
theorem runslices_DeleteFunc_int_int : ∀ (x : Unit) (g : (List Int) × Int × Int × Unit), execX false Eslices_DeleteFunc_int_int Try.f23 (Aslices_DeleteFunc_int_int.enc x) (Gslices_DeleteFunc_int_int.enc g) = (Tslices_DeleteFunc_int_int none g.1 g.2.1 g.2.2.1).map ((Sum.elim (Rslices_DeleteFunc_int_int x g) (Rslices_DeleteFunc_int_intb x g)))
  | (), (g0, g1, g2, ()) => rnslices_DeleteFunc_int_int g0 g1 g2
theorem okslices_DeleteFunc_int_int : FnOk Try.prog cd 23 Sslices_DeleteFunc_int_int := mk_okG2 (E := Eslices_DeleteFunc_int_int) (A := Aslices_DeleteFunc_int_int) (B := Gslices_DeleteFunc_int_int) false cd_ok (addF_ok okslices_IndexFunc_int_int (addF_ok okimage_Load_1 fns22_ok)) Try.func23 (by kernel_rfl) (loops_of (addL_ok lpslices_DeleteFunc_int_int_0 noL_ok)) (aR_ok (aF_ok (aNil_ok))) (bR_ok (bC_ok (cInt_ok .i64) (bC_ok (cInt_ok .i64) bNil_ok))) (T := fun (x : Unit) (g : (List Int) × Int × Int × Unit) => Tslices_DeleteFunc_int_int none g.1 g.2.1 g.2.2.1) (fun _ _ => rfl) runslices_DeleteFunc_int_int
/-- emulator/image.Load -/
noncomputable def Timage_Load (q : Option Nat) (x0 : Machine) (x1 : Image) (x2 : Int) : Tree (Machine × Int) :=
  .opt Int (image_Check q x1) fun r130 =>
    .ite (!decide (r130 = (0 : Int)))
      (.leaf ((Machine.mk (Cpu.mk (List.replicate 6 (0 : Int)) (List.replicate 2 (0 : Int)) 0 0) ([]) ([]) (Mmu.mk false (List.replicate 16 (Page.mk (0 : Int) (0 : Int) (0 : Int) false)) 0 0) (Clock.mk false false 0 0) ([]) (Disk.mk (Drive.mk ([]) ([])) false false false 0 0 0 0 0) (Tape.mk ([]) 0 false false false false false 0 0 0 0) 0 false false 0 false, r130)))
      (.ite (decide (x2 < (0 : Int)))
        (.leaf ((Machine.mk (Cpu.mk (List.replicate 6 (0 : Int)) (List.replicate 2 (0 : Int)) 0 0) ([]) ([]) (Mmu.mk false (List.replicate 16 (Page.mk (0 : Int) (0 : Int) (0 : Int) false)) 0 0) (Clock.mk false false 0 0) ([]) (Disk.mk (Drive.mk ([]) ([])) false false false 0 0 0 0 0) (Tape.mk ([]) 0 false false false false false 0 0 0 0) 0 false false 0 false, (1 : Int))))
        (.ite (decide ((2 : Int) = 0))
          .fail
          (.ite (!decide (((x2).tmod (2 : Int)) = (0 : Int)))
            (.leaf ((Machine.mk (Cpu.mk (List.replicate 6 (0 : Int)) (List.replicate 2 (0 : Int)) 0 0) ([]) ([]) (Mmu.mk false (List.replicate 16 (Page.mk (0 : Int) (0 : Int) (0 : Int) false)) 0 0) (Clock.mk false false 0 0) ([]) (Disk.mk (Drive.mk ([]) ([])) false false false 0 0 0 0 0) (Tape.mk ([]) 0 false false false false false 0 0 0 0) 0 false false 0 false, (1 : Int))))
            (.opt Int (image_Size x1) fun r131 =>
              .ite (decide (x1.text.length + x1.data.length ≤ 9223372036854775807))
                (.opt (List UInt8) (strings_Repeat ([0] : List UInt8) (IntKind.wrap .i64 (r131 - ((x1.text ++ x1.data).length : Int)))) fun r132 =>
                  .ite (decide ((x1.text ++ x1.data).length + r132.length ≤ 9223372036854775807))
                    (.opt ((List Int) × Int) (memory_Store q x0.mem x2 ((x1.text ++ x1.data) ++ r132)) fun r133 =>
                      .ite (!decide (r133.2 = (0 : Int)))
                        (.leaf ((Machine.mk (Cpu.mk (List.replicate 6 (0 : Int)) (List.replicate 2 (0 : Int)) 0 0) ([]) ([]) (Mmu.mk false (List.replicate 16 (Page.mk (0 : Int) (0 : Int) (0 : Int) false)) 0 0) (Clock.mk false false 0 0) ([]) (Disk.mk (Drive.mk ([]) ([])) false false false 0 0 0 0 0) (Tape.mk ([]) 0 false false false false false 0 0 0 0) 0 false false 0 false, (26 : Int))))
                        (.opt (List Int) (cloneF 8 x0.bad) fun r134 =>
                          .opt (((List Int) × Int × Int) ⊕ ((Nat × Nat) × (List Int) × Int × Int)) (slices_DeleteFunc_int_int q r134 x2 r131) fun r135 =>
                            .ite (r135.isLeft)
                              (.opt ((List Int) × Int × Int) (r135.getLeft?) fun a136 =>
                                .leaf ((Machine.mk x0.cpu r133.1 a136.1 x0.mmu x0.clock x0.lines x0.disk x0.tape x0.now x0.halted x0.waiting x0.power x0.powerTrap, (0 : Int))))
                              (.opt ((Nat × Nat) × (List Int) × Int × Int) (r135.getRight?) fun b137 =>
                                .leaf ((Machine.mk x0.cpu r133.1 ((b137.2.1.drop (b137.1.1)).take (b137.1.2)) x0.mmu x0.clock x0.lines x0.disk x0.tape x0.now x0.halted x0.waiting x0.power x0.powerTrap, (0 : Int))))))
                    .fail)
                .fail))))
noncomputable def image_Load (q : Option Nat) (x0 : Machine) (x1 : Image) (x2 : Int) : Option (Machine × Int) := (Timage_Load q x0 x1 x2).run
theorem leimage_Load (k : Nat) (x0 : Machine) (x1 : Image) (x2 : Int) : Le (image_Load (some k) x0 x1 x2) (image_Load none x0 x1 x2) := (TLe.opt (leimage_Check k _) fun _ => (TLe.ite TLe.rfl (TLe.ite TLe.rfl (TLe.ite TLe.rfl (TLe.ite TLe.rfl (TLe.opt Le.rfl fun _ => (TLe.ite (TLe.opt Le.rfl fun _ => (TLe.ite (TLe.opt (lememory_Store k _ _ _) fun _ => (TLe.ite TLe.rfl (TLe.opt Le.rfl fun _ => (TLe.opt (leslices_DeleteFunc_int_int k _ _ _) fun _ => TLe.rfl)))) TLe.rfl)) TLe.rfl)))))))
noncomputable def Aimage_Load : Arg U (Machine × Image × Int × Unit) := aA cMachine (aA cImage (aO (cInt .i64) (aNil)))
noncomputable def Rimage_Load (r : (Machine × Int)) : List (V U) × List (Blk U) := ([vA cMachine r.1, vO (cInt .i64) r.2], [])
noncomputable def Simage_Load : List (V U) → List (Blk U) → Option (FnOut U) := mkSpec Aimage_Load bNil (fun x _ => image_Load none x.1 x.2.1 x.2.2.1) Rimage_Load
noncomputable def Eimage_Load : Env U := { P := Try.prog, cd := cd, fns := (addF 24 false (cloneSpec 3 8) (addF 23 false (Sslices_DeleteFunc_int_int) fns22)), lps := noL, frz := fun _r => false, nt := 60, n0 := 0 }
theorem runimage_Load (x : Machine × Image × Int × Unit) (g : Unit) : execF Eimage_Load Try.f7 (Aimage_Load.enc x) (bNil.enc g) = (Timage_Load none x.1 x.2.1 x.2.2.1).map Rimage_Load := by kernel_rfl
theorem okimage_Load : FnOk Try.prog cd 7 Simage_Load := mk_ok (E := Eimage_Load) cd_ok (addF_ok okslices_Clone_int_int (addF_ok okslices_DeleteFunc_int_int fns22_ok)) Try.func7 (by kernel_rfl) (noLoops_body (by kernel_rfl)) (aA_ok cMachine_ok (aA_ok cImage_ok (aO_ok (cInt_ok .i64) (aNil_ok)))) bNil_ok (T := fun x _ => Timage_Load none x.1 x.2.1 x.2.2.1) (fun _ _ => rfl) runimage_Load
noncomputable def fns7 := addF 7 true Simage_Load fns22
theorem fns7_ok : ∀ f q t, fns7 f = some (q, t) → FnOk Try.prog cd f t := addF_ok okimage_Load fns22_ok
/-- emulator/memory.Bytes -/
structure Smemory_Bytes_0 where
  t0 : (List Int)
  t1 : Int
  t19 : Int
  t20 : Int
  b0 : (List Int)
noncomputable def Wmemory_Bytes_0 (s : Smemory_Bytes_0) : Tree (Smemory_Bytes_0 ⊕ (List Int)) :=
  .ite (decide (s.t20 < s.t19))
    (.ite (decide ((2 : Int) = 0))
      .fail
      (.ite (decide (0 ≤ IntKind.wrap .i64 (((IntKind.wrap .i64 (s.t1 + s.t20))).tdiv (2 : Int))))
        (.opt Int (s.t0[(IntKind.wrap .i64 (((IntKind.wrap .i64 (s.t1 + s.t20))).tdiv (2 : Int))).toNat]?) fun y139 =>
          .ite (decide ((2 : Int) = 0))
            .fail
            (.ite (decide (0 ≤ (IntKind.wrap .i64 ((((IntKind.wrap .i64 (s.t1 + s.t20))).tmod (2 : Int)) * (8 : Int)))))
              (.ite (decide (0 ≤ s.t20))
                (.ite (decide (s.t20 < (s.b0.length : Int)))
                  (.opt Int (s.b0[(s.t20).toNat]?) fun y140 =>
                    .leaf (.inl (Smemory_Bytes_0.mk s.t0 s.t1 s.t19 (IntKind.wrap .i64 (s.t20 + (1 : Int))) (s.b0.set ((s.t20).toNat) (IntKind.wrap .u8 ((y139).fdiv (2 ^ (min ((IntKind.wrap .i64 ((((IntKind.wrap .i64 (s.t1 + s.t20))).tmod (2 : Int)) * (8 : Int)))).toNat 64))))))))
                  .fail)
                .fail)
              .fail))
        .fail))
    (.leaf (.inr s.b0))
noncomputable def Lmemory_Bytes_0 (q : Option Nat) (s : Smemory_Bytes_0) : Option (List Int) := limQ q (fun s => (Wmemory_Bytes_0 s).run) s
theorem leLmemory_Bytes_0 (k : Nat) (s : Smemory_Bytes_0) : Le (Lmemory_Bytes_0 (some k) s) (Lmemory_Bytes_0 none s) := limQ_le (fun _ => Le.rfl) s
noncomputable def Tmemory_Bytes (q : Option Nat) (x0 : (List Int)) (x1 : Int) (x2 : Int) : Tree ((List UInt8) × Int) :=
  .opt Bool (memory_within x0 x1 x2) fun r138 =>
    .ite (!r138)
      (.leaf ((([] : List UInt8), (2 : Int))))
      (.ite (decide (x2 = x2))
        (.ite (decide (0 ≤ x2))
          (.ite (decide ((1 : Int) * x2 ≤ 281474976710656))
            (.opt (List Int) (Lmemory_Bytes_0 q (Smemory_Bytes_0.mk x0 x1 ((List.replicate (x2).toNat (0 : Int)).length : Int) (0 : Int) (List.replicate (x2).toNat (0 : Int)))) fun l141 =>
              .leaf ((l141.map fun x => UInt8.ofNat x.toNat, (0 : Int))))
            .fail)
          .fail)
        .fail)
noncomputable def memory_Bytes (q : Option Nat) (x0 : (List Int)) (x1 : Int) (x2 : Int) : Option ((List UInt8) × Int) := (Tmemory_Bytes q x0 x1 x2).run
theorem lememory_Bytes (k : Nat) (x0 : (List Int)) (x1 : Int) (x2 : Int) : Le (memory_Bytes (some k) x0 x1 x2) (memory_Bytes none x0 x1 x2) := (TLe.opt Le.rfl fun _ => (TLe.ite TLe.rfl (TLe.ite (TLe.ite (TLe.ite (TLe.opt (leLmemory_Bytes_0 k _) fun _ => TLe.rfl) TLe.rfl) TLe.rfl) TLe.rfl)))
noncomputable def Amemory_Bytes : Arg U ((List Int) × Int × Int × Unit) := aO (cSl 3) (aO (cInt .i64) (aO (cInt .i64) (aNil)))
noncomputable def Rmemory_Bytes (r : ((List UInt8) × Int)) : List (V U) × List (Blk U) := ([vO cStr r.1, vO (cInt .i64) r.2], [])
noncomputable def Smemory_Bytes : List (V U) → List (Blk U) → Option (FnOut U) := mkSpec Amemory_Bytes bNil (fun x _ => memory_Bytes none x.1 x.2.1 x.2.2.1) Rmemory_Bytes
noncomputable def Pmemory_Bytes_0 (x : ((List Int) × Unit) × (Int × Unit) × (Unit) × (Int × Unit) × (Int × Unit) × Unit) (g : (List Int) × Unit) : Smemory_Bytes_0 := Smemory_Bytes_0.mk x.1.1 x.2.1.1 x.2.2.2.1.1 x.2.2.2.2.1.1 g.1
noncomputable def tAmemory_Bytes_0 : Tms U (((List Int) × Unit) × (Int × Unit) × (Unit) × (Int × Unit) × (Int × Unit) × Unit) := tO 0 (cPair (cSl 3) (cUnit)) (tO 1 (cPair (cInt .i64) (cUnit)) (tO 8 (cK (.row 0 0) (cUnit)) (tO 19 (cPair (cInt .i64) (cUnit)) (tO 20 (cPair (cInt .i64) (cUnit)) (tNil)))))
noncomputable def tBmemory_Bytes_0 : Bls U ((List Int) × Unit) := bRv 5 0 (bNil)
noncomputable def eSmemory_Bytes_0 (s : Smemory_Bytes_0) : St U := { tm := [(0, .v (vO (cPair (cSl 3) (cUnit)) (s.t0, ()))), (1, .v (vO (cPair (cInt .i64) (cUnit)) (s.t1, ()))), (8, .v (vO (cK (.row 0 0) (cUnit)) (()))), (19, .v (vO (cPair (cInt .i64) (cUnit)) (s.t19, ()))), (20, .v (vO (cPair (cInt .i64) (cUnit)) (s.t20, ())))], hp := [.row 5 0 s.b0] }
noncomputable def xSmemory_Bytes_0 (r : (List Int)) : Ex × St U := (.exit 0, { tm := [(8, .v (vO (cK (.row 0 0) (cUnit)) (())))], hp := [.row 5 0 r] })
noncomputable def xTmemory_Bytes_0 (r : (List Int)) : Tree (Ex × St U) := .leaf (xSmemory_Bytes_0 r)
noncomputable def hmemory_Bytes_0 : Hd := { keep := [0, 1, 8, 19, 20], xkeep := [6, 7, 8], own := false }
noncomputable def Ememory_Bytes : Env U := { P := Try.prog, cd := cd, fns := fns7, lps := (addL 0 hmemory_Bytes_0 (mkLoop tAmemory_Bytes_0 tBmemory_Bytes_0 Pmemory_Bytes_0 (Lmemory_Bytes_0 none) xTmemory_Bytes_0) noL), frz := fun _r => false, nt := 42, n0 := 0 }
noncomputable def Bmemory_Bytes_0 : Code := (loopAt (Try.f8.body.getD .skip) 0 0).getD .skip
theorem roundmemory_Bytes_0 (s : Smemory_Bytes_0) : round Ememory_Bytes hmemory_Bytes_0 Bmemory_Bytes_0 0 (eSmemory_Bytes_0 s) = (Wmemory_Bytes_0 s).map (sumE eSmemory_Bytes_0 xSmemory_Bytes_0) := by kernel_rfl
theorem lpmemory_Bytes_0 : LpOk Ememory_Bytes Bmemory_Bytes_0 0 := mkLoop_ok (A := tAmemory_Bytes_0) (B := tBmemory_Bytes_0) (f := Pmemory_Bytes_0) (L := Lmemory_Bytes_0 none) (tO_ok (cPair_ok (cSl_ok 3) cUnit_ok) (tO_ok (cPair_ok (cInt_ok .i64) cUnit_ok) (tO_ok (cK_ok cUnit_ok) (tO_ok (cPair_ok (cInt_ok .i64) cUnit_ok) (tO_ok (cPair_ok (cInt_ok .i64) cUnit_ok) tNil_ok))))) (bRv_ok bNil_ok) (enc := eSmemory_Bytes_0) (out := xTmemory_Bytes_0) (outS := xSmemory_Bytes_0) (step := Wmemory_Bytes_0) (fun _ => rfl) (fun _ _ => by kernel_rfl) (by kernel_rfl) (fun _ => rfl) roundmemory_Bytes_0
theorem runmemory_Bytes (x : (List Int) × Int × Int × Unit) (g : Unit) : execF Ememory_Bytes Try.f8 (Amemory_Bytes.enc x) (bNil.enc g) = (Tmemory_Bytes none x.1 x.2.1 x.2.2.1).map Rmemory_Bytes := by kernel_rfl
theorem okmemory_Bytes : FnOk Try.prog cd 8 Smemory_Bytes := mk_ok (E := Ememory_Bytes) cd_ok fns7_ok Try.func8 (by kernel_rfl) (loops_of (addL_ok lpmemory_Bytes_0 noL_ok)) (aO_ok (cSl_ok 3) (aO_ok (cInt_ok .i64) (aO_ok (cInt_ok .i64) (aNil_ok)))) bNil_ok (T := fun x _ => Tmemory_Bytes none x.1 x.2.1 x.2.2.1) (fun _ _ => rfl) runmemory_Bytes
noncomputable def fns8 := addF 8 true Smemory_Bytes fns7
theorem fns8_ok : ∀ f q t, fns8 f = some (q, t) → FnOk Try.prog cd f t := addF_ok okmemory_Bytes fns7_ok
/-- emulator/emulatortop.PartsImages -/
structure Stop_PartsImages_0 where
  t2 : Int
  t13 : Int
  b0 : Machine
  b1 : Image
  b2 : Machine
noncomputable def Wtop_PartsImages_0 (s : Stop_PartsImages_0) : Tree (Stop_PartsImages_0 ⊕ (Bool ⊕ Unit)) :=
  .ite (decide (s.t13 < (s.b0.mem.length : Int)))
    (.ite (decide ((IntKind.wrap .i64 ((2 : Int) * s.t13)) < s.t2))
      (.ite (decide (0 ≤ s.t13))
        (.opt Int (s.b2.mem[(s.t13).toNat]?) fun y145 =>
          .ite (decide (0 ≤ s.t13))
            (.opt Int (s.b0.mem[(s.t13).toNat]?) fun y146 =>
              .ite (!decide (y145 = y146))
                (.leaf (.inr (.inl false)))
                (.leaf (.inl (Stop_PartsImages_0.mk s.t2 (IntKind.wrap .i64 (s.t13 + (1 : Int))) s.b0 s.b1 s.b2))))
            .fail)
        .fail)
      (.opt Int (image_Size s.b1) fun r147 =>
        .ite (decide ((IntKind.wrap .i64 (s.t2 + r147)) ≤ (IntKind.wrap .i64 ((2 : Int) * s.t13))))
          (.ite (decide (0 ≤ s.t13))
            (.opt Int (s.b2.mem[(s.t13).toNat]?) fun y148 =>
              .ite (decide (0 ≤ s.t13))
                (.opt Int (s.b0.mem[(s.t13).toNat]?) fun y149 =>
                  .ite (!decide (y148 = y149))
                    (.leaf (.inr (.inl false)))
                    (.leaf (.inl (Stop_PartsImages_0.mk s.t2 (IntKind.wrap .i64 (s.t13 + (1 : Int))) s.b0 s.b1 s.b2))))
                .fail)
            .fail)
          (.leaf (.inl (Stop_PartsImages_0.mk s.t2 (IntKind.wrap .i64 (s.t13 + (1 : Int))) s.b0 s.b1 s.b2)))))
    (.leaf (.inr (.inr ())))
noncomputable def Ltop_PartsImages_0 (q : Option Nat) (s : Stop_PartsImages_0) : Option (Bool ⊕ Unit) := limQ q (fun s => (Wtop_PartsImages_0 s).run) s
theorem leLtop_PartsImages_0 (k : Nat) (s : Stop_PartsImages_0) : Le (Ltop_PartsImages_0 (some k) s) (Ltop_PartsImages_0 none s) := limQ_le (fun _ => Le.rfl) s
noncomputable def Ttop_PartsImages (q : Option Nat) (x0 : Machine) (x1 : Image) (x2 : Int) : Tree Bool :=
  .opt Bool (top_fit q x0) fun r142 =>
    .ite (!r142)
      (.leaf (true))
      (.ite (decide ((400 : Int) < (x1.text.length : Int)))
        (.leaf (true))
        (.ite (decide ((400 : Int) < (x1.data.length : Int)))
          (.leaf (true))
          (.ite (decide ((30 : Int) < (x1.symbols.length : Int)))
            (.leaf (true))
            (.ite (decide (x1.bss < (0 : Int)))
              (.leaf (true))
              (.ite (decide ((400 : Int) < x1.bss))
                (.leaf (true))
                (.ite (decide (x2 < (0 : Int)))
                  (.leaf (true))
                  (.ite (decide ((4096 : Int) < x2))
                    (.leaf (true))
                    (.opt (Machine × Int) (image_Load q x0 x1 x2) fun r143 =>
                      .ite (!decide (r143.2 = (0 : Int)))
                        (.leaf (true))
                        (.ite (decide ((2 : Int) = 0))
                          .fail
                          (.ite (decide ((((x1.data.length : Int)).tmod (2 : Int)) = (1 : Int)))
                            (.ite (decide (x1.data.length + ([0] : List UInt8).length ≤ 9223372036854775807))
                              (.ite (decide (x1.text.length + (x1.data ++ ([0] : List UInt8)).length ≤ 9223372036854775807))
                                (.ite (decide (x1.bss = x1.bss))
                                  (.ite (decide (0 ≤ x1.bss))
                                    (.ite (decide ((1 : Int) * x1.bss ≤ 281474976710656))
                                      (.ite (decide ((x1.text ++ (x1.data ++ ([0] : List UInt8))).length + ((List.replicate (x1.bss).toNat (0 : Int)).map fun x => UInt8.ofNat x.toNat).length ≤ 9223372036854775807))
                                        (.opt ((List UInt8) × Int) (memory_Bytes q r143.1.mem x2 (((x1.text ++ (x1.data ++ ([0] : List UInt8))) ++ ((List.replicate (x1.bss).toNat (0 : Int)).map fun x => UInt8.ofNat x.toNat)).length : Int)) fun r144 =>
                                          .ite (!decide (r144.2 = (0 : Int)))
                                            (.leaf (false))
                                            (.ite (!decide (r144.1 = ((x1.text ++ (x1.data ++ ([0] : List UInt8))) ++ ((List.replicate (x1.bss).toNat (0 : Int)).map fun x => UInt8.ofNat x.toNat))))
                                              (.leaf (false))
                                              (.ite (!decide ((r143.1.mem.length : Int) = (x0.mem.length : Int)))
                                                (.leaf (false))
                                                (.opt (Bool ⊕ Unit) (Ltop_PartsImages_0 q (Stop_PartsImages_0.mk x2 (0 : Int) x0 x1 r143.1)) fun l150 =>
                                                  .ite (l150.isLeft)
                                                    (.opt Bool (l150.getLeft?) fun a151 =>
                                                      .leaf (a151))
                                                    (.opt Unit (l150.getRight?) fun b152 =>
                                                      .leaf (true))))))
                                        .fail)
                                      .fail)
                                    .fail)
                                  .fail)
                                .fail)
                              .fail)
                            (.ite (decide (x1.text.length + x1.data.length ≤ 9223372036854775807))
                              (.ite (decide (x1.bss = x1.bss))
                                (.ite (decide (0 ≤ x1.bss))
                                  (.ite (decide ((1 : Int) * x1.bss ≤ 281474976710656))
                                    (.ite (decide ((x1.text ++ x1.data).length + ((List.replicate (x1.bss).toNat (0 : Int)).map fun x => UInt8.ofNat x.toNat).length ≤ 9223372036854775807))
                                      (.opt ((List UInt8) × Int) (memory_Bytes q r143.1.mem x2 (((x1.text ++ x1.data) ++ ((List.replicate (x1.bss).toNat (0 : Int)).map fun x => UInt8.ofNat x.toNat)).length : Int)) fun r153 =>
                                        .ite (!decide (r153.2 = (0 : Int)))
                                          (.leaf (false))
                                          (.ite (!decide (r153.1 = ((x1.text ++ x1.data) ++ ((List.replicate (x1.bss).toNat (0 : Int)).map fun x => UInt8.ofNat x.toNat))))
                                            (.leaf (false))
                                            (.ite (!decide ((r143.1.mem.length : Int) = (x0.mem.length : Int)))
                                              (.leaf (false))
                                              (.opt (Bool ⊕ Unit) (Ltop_PartsImages_0 q (Stop_PartsImages_0.mk x2 (0 : Int) x0 x1 r143.1)) fun l154 =>
                                                .ite (l154.isLeft)
                                                  (.opt Bool (l154.getLeft?) fun a155 =>
                                                    .leaf (a155))
                                                  (.opt Unit (l154.getRight?) fun b156 =>
                                                    .leaf (true))))))
                                      .fail)
                                    .fail)
                                  .fail)
                                .fail)
                              .fail)))))))))))
noncomputable def top_PartsImages (q : Option Nat) (x0 : Machine) (x1 : Image) (x2 : Int) : Option Bool := (Ttop_PartsImages q x0 x1 x2).run
theorem letop_PartsImages (k : Nat) (x0 : Machine) (x1 : Image) (x2 : Int) : Le (top_PartsImages (some k) x0 x1 x2) (top_PartsImages none x0 x1 x2) := (TLe.opt (letop_fit k _) fun _ => (TLe.ite TLe.rfl (TLe.ite TLe.rfl (TLe.ite TLe.rfl (TLe.ite TLe.rfl (TLe.ite TLe.rfl (TLe.ite TLe.rfl (TLe.ite TLe.rfl (TLe.ite TLe.rfl (TLe.opt (leimage_Load k _ _ _) fun _ => (TLe.ite TLe.rfl (TLe.ite TLe.rfl (TLe.ite (TLe.ite (TLe.ite (TLe.ite (TLe.ite (TLe.ite (TLe.ite (TLe.opt (lememory_Bytes k _ _ _) fun _ => (TLe.ite TLe.rfl (TLe.ite TLe.rfl (TLe.ite TLe.rfl (TLe.opt (leLtop_PartsImages_0 k _) fun _ => TLe.rfl))))) TLe.rfl) TLe.rfl) TLe.rfl) TLe.rfl) TLe.rfl) TLe.rfl) (TLe.ite (TLe.ite (TLe.ite (TLe.ite (TLe.ite (TLe.opt (lememory_Bytes k _ _ _) fun _ => (TLe.ite TLe.rfl (TLe.ite TLe.rfl (TLe.ite TLe.rfl (TLe.opt (leLtop_PartsImages_0 k _) fun _ => TLe.rfl))))) TLe.rfl) TLe.rfl) TLe.rfl) TLe.rfl) TLe.rfl))))))))))))))
noncomputable def Atop_PartsImages : Arg U (Machine × Image × Int × Unit) := aA cMachine (aA cImage (aO (cInt .i64) (aNil)))
noncomputable def Rtop_PartsImages (r : Bool) : List (V U) × List (Blk U) := ([vO cBool r], [])
noncomputable def Stop_PartsImages : List (V U) → List (Blk U) → Option (FnOut U) := mkSpec Atop_PartsImages bNil (fun x _ => top_PartsImages none x.1 x.2.1 x.2.2.1) Rtop_PartsImages
noncomputable def Ptop_PartsImages_0 (x : (Int × Unit) × (Unit) × (Unit) × (Unit) × (Int × Unit) × Unit) (g : (Machine × Unit) × (Image × Unit) × (Machine × Unit) × Unit) : Stop_PartsImages_0 := Stop_PartsImages_0.mk x.1.1 x.2.2.2.2.1.1 g.1.1 g.2.1.1 g.2.2.1.1
noncomputable def tAtop_PartsImages_0 : Tms U ((Int × Unit) × (Unit) × (Unit) × (Unit) × (Int × Unit) × Unit) := tO 2 (cPair (cInt .i64) (cUnit)) (tO 3 (cK (.ptr 0 0) (cUnit)) (tO 4 (cK (.ptr 1 0) (cUnit)) (tO 7 (cK (.ptr 2 0) (cUnit)) (tO 13 (cPair (cInt .i64) (cUnit)) (tNil)))))
noncomputable def tBtop_PartsImages_0 : Bls U ((Machine × Unit) × (Image × Unit) × (Machine × Unit) × Unit) := bC (cPair cMachine (cUnit)) (bC (cPair cImage (cUnit)) (bC (cPair cMachine (cUnit)) (bNil)))
noncomputable def eStop_PartsImages_0 (s : Stop_PartsImages_0) : St U := { tm := [(2, .v (vO (cPair (cInt .i64) (cUnit)) (s.t2, ()))), (3, .v (vO (cK (.ptr 0 0) (cUnit)) (()))), (4, .v (vO (cK (.ptr 1 0) (cUnit)) (()))), (7, .v (vO (cK (.ptr 2 0) (cUnit)) (()))), (13, .v (vO (cPair (cInt .i64) (cUnit)) (s.t13, ())))], hp := [.cells ((cPair cMachine (cUnit) : Cdc U (Machine × Unit)).enc (s.b0, ())), .cells ((cPair cImage (cUnit) : Cdc U (Image × Unit)).enc (s.b1, ())), .cells ((cPair cMachine (cUnit) : Cdc U (Machine × Unit)).enc (s.b2, ()))] }
noncomputable def xStop_PartsImages_0 : (Bool ⊕ Unit) → Ex × St U
  | .inl r => (.ret, { tm := [(6, .v (vO (cPair cBool (cUnit)) (r, ())))], hp := [] })
  | .inr r => (.exit 0, { tm := [], hp := [] })
noncomputable def xTtop_PartsImages_0 (y : (Bool ⊕ Unit)) : Tree (Ex × St U) := .ite y.isLeft (.opt Bool y.getLeft? fun r => .leaf (.ret, { tm := [(6, .v (vO (cPair cBool (cUnit)) (r, ())))], hp := [] })) (.opt Unit y.getRight? fun r => .leaf (.exit 0, { tm := [], hp := [] }))
noncomputable def htop_PartsImages_0 : Hd := { keep := [2, 3, 4, 7, 13], xkeep := [6], own := false }
noncomputable def Etop_PartsImages : Env U := { P := Try.prog, cd := cd, fns := fns8, lps := (addL 0 htop_PartsImages_0 (mkLoop tAtop_PartsImages_0 tBtop_PartsImages_0 Ptop_PartsImages_0 (Ltop_PartsImages_0 none) xTtop_PartsImages_0) noL), frz := fun _r => false, nt := 137, n0 := 0 }
noncomputable def Btop_PartsImages_0 : Code := (loopAt (Try.f3.body.getD .skip) 0 0).getD .skip
theorem roundtop_PartsImages_0 (s : Stop_PartsImages_0) : round Etop_PartsImages htop_PartsImages_0 Btop_PartsImages_0 0 (eStop_PartsImages_0 s) = (Wtop_PartsImages_0 s).map (sumE eStop_PartsImages_0 xStop_PartsImages_0) := by kernel_rfl
theorem lptop_PartsImages_0 : LpOk Etop_PartsImages Btop_PartsImages_0 0 := mkLoop_ok (A := tAtop_PartsImages_0) (B := tBtop_PartsImages_0) (f := Ptop_PartsImages_0) (L := Ltop_PartsImages_0 none) (tO_ok (cPair_ok (cInt_ok .i64) cUnit_ok) (tO_ok (cK_ok cUnit_ok) (tO_ok (cK_ok cUnit_ok) (tO_ok (cK_ok cUnit_ok) (tO_ok (cPair_ok (cInt_ok .i64) cUnit_ok) tNil_ok))))) (bC_ok (cPair_ok cMachine_ok cUnit_ok) (bC_ok (cPair_ok cImage_ok cUnit_ok) (bC_ok (cPair_ok cMachine_ok cUnit_ok) bNil_ok))) (enc := eStop_PartsImages_0) (out := xTtop_PartsImages_0) (outS := xStop_PartsImages_0) (step := Wtop_PartsImages_0) (fun _ => rfl) (fun _ _ => by kernel_rfl) (by kernel_rfl) (fun b => by cases b <;> rfl) roundtop_PartsImages_0
theorem runtop_PartsImages (x : Machine × Image × Int × Unit) (g : Unit) : execF Etop_PartsImages Try.f3 (Atop_PartsImages.enc x) (bNil.enc g) = (Ttop_PartsImages none x.1 x.2.1 x.2.2.1).map Rtop_PartsImages := by kernel_rfl
theorem oktop_PartsImages : FnOk Try.prog cd 3 Stop_PartsImages := mk_ok (E := Etop_PartsImages) cd_ok fns8_ok Try.func3 (by kernel_rfl) (loops_of (addL_ok lptop_PartsImages_0 noL_ok)) (aA_ok cMachine_ok (aA_ok cImage_ok (aO_ok (cInt_ok .i64) (aNil_ok)))) bNil_ok (T := fun x _ => Ttop_PartsImages none x.1 x.2.1 x.2.2.1) (fun _ _ => rfl) runtop_PartsImages
noncomputable def fns3 := addF 3 true Stop_PartsImages fns8
theorem fns3_ok : ∀ f q t, fns3 f = some (q, t) → FnOk Try.prog cd f t := addF_ok oktop_PartsImages fns8_ok
end Go.Proofs.Ytlaabdpccdnalaa
end
