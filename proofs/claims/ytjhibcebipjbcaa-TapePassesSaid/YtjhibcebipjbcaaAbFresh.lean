/- Functions that hand out rows of their own; contracts that tell blocks by what was handed in. -/
import Derived.Test.YtjhibcebipjbcaaAbFrz
set_option linter.unusedSimpArgs false
namespace Go.Ab
variable {U : Nat → Type} {α β γ : Type}
/-- the temporaries of results -/
def resTs : List ResultVar → List Nat
  | [] => []
  | .tmp t :: l => t :: resTs l
  | .cell t _ :: l => t :: resTs l
/-- a whole function whose rows are handed out as they are -/
def execF2 (E : Env U) (f : Func) (args : List (V U)) (hp : List (Blk U)) : Tree (List (V U) × List (Blk U)) :=
  bif Nat.beq hp.length E.n0 && rows0 hp && Nat.beq f.ntmps E.nt && Nat.ble args.length f.ntmps && Nat.beq f.results.size f.resultTypes.size then match f.body with
  | some c => (exec E c 0 { tm := argsT 0 args, hp }).bind fun p => match p.1 with
    | .exit _ => .fail
    | _ =>
      let σ := nrm E.n0 (resTs f.results.toList) false p.2
      match resV E.P σ.hp.length σ (f.results.toList.zip f.resultTypes.toList) with
      | some vs => .leaf (vs, outB σ.hp.length (firstB σ.hp.length σ.hp))
      | none => .fail
  | none => .fail
  else .fail
section
variable {E : Env U}
theorem fn_ok2 (ok : CdOk E.P E.cd) (env : ∀ f p s, E.fns f = some (p, s) → FnOk E.P E.cd f s) {f : Nat} {fn : Func} (hf : E.P.funcs[f]? = some fn) (hname : (fn.name == "runtime.NumGoroutine") = false) (hl : ∀ c, fn.body = some c → LoopsOk E c 0)
    {spec : List (V U) → List (Blk U) → Option (FnOut U)} (hs : ∀ args hp r, spec args hp = some r → ∀ x, r.o = some x → ∀ p, (r.out x).run = some p → (execF2 E fn args hp).run = some p) : FnOk E.P E.cd f spec := by
  intro M Fz w hp args vargs hr ha r hsp x hx out hout
  have hrun := hs args hp r hsp x hx out hout
  unfold execF2 at hrun
  rw [cond_eq_ite] at hrun
  split at hrun
  case isFalse => cases hrun
  rename_i hc
  simp only [Bool.and_eq_true] at hc
  obtain ⟨⟨⟨⟨hc1, hc2⟩, hc3⟩, hc4⟩, hc5⟩ := hc
  have hn0 : hp.length = E.n0 := Nat.eq_of_beq_eq_true hc1
  have hnt : fn.ntmps = E.nt := Nat.eq_of_beq_eq_true hc3
  have hle : args.length ≤ fn.ntmps := Nat.le_of_ble_eq_true hc4
  have hrs : fn.results.size = fn.resultTypes.size := Nat.eq_of_beq_eq_true hc5
  split at hrun
  case h_2 => cases hrun
  rename_i c hbody
  rw [Tree.run_bind] at hrun
  obtain ⟨p, hp1, hp2⟩ := Option.bind_eq_some_iff.1 hrun
  have hI : Start E.n0 M := ⟨fun b hb => hr.out b (by omega), fun b q t v l c hb => by
    have hlt : b < hp.length := by
      rcases Nat.lt_or_ge b hp.length with h' | h'
      · exact h'
      · rw [hr.out b h'] at hb; cases hb
    have hx := List.getElem?_eq_getElem hlt
    have hbk := hr.blk b _ hx
    revert hx hbk
    generalize hp[b] = y
    intro hx hbk
    cases y with
    | dead => exact absurd (hb.symm.trans hbk) (by simp)
    | cells cs => obtain ⟨k, arr, e, e1, _⟩ := hbk; rw [hb] at e1; cases e1
    | row t' v' l' =>
      obtain ⟨pos', cap', e1, _⟩ := hbk
      rw [hb] at e1
      injection e1 with e1
      injection e1 with e1 e2 e3
      rw [e3]
      exact rows0_ok hc2 b t' v' l' hx⟩
  refine ⟨fn, hf, hname, by rw [hbody]; rfl, ?_⟩
  refine calls_of_wp hf hbody ?_
  have h0 : RSt E.P E.cd E.nt (Held M) Fz w M { tm := argsT 0 args, hp } { tmps := vargs.toArray ++ Array.replicate (fn.ntmps - vargs.toArray.size) undef, defers := [] } w := by
    refine ⟨M, Fz, ⟨hr, ?_, ?_, rfl, .refl _ _, fun k hk => .inl hk, fun k hk => hk, fun k hk => .inl hk, .refl _⟩⟩
    · intro t d ht
      obtain ⟨_, y, hy, rfl⟩ := argsT_get args 0 t d ht
      rw [Nat.sub_zero] at hy
      have hlt := (List.getElem?_eq_some_iff.1 hy).1
      have hlt2 : t < vargs.length := by rw [ha.1]; exact hlt
      refine ⟨vargs[t], ?_, ha.2 t y _ hy (List.getElem?_eq_getElem hlt2)⟩
      rw [Array.getElem?_append_left (by simpa using hlt2)]
      simp
    · simp [ha.1]
      omega
  refine exec_ok ok env hI c 0 (hl c hbody) _ p hp1 _ w h0 _ fun a' w' h' => ?_
  have h2 := nrm_ok ok hI (resTs fn.results.toList) false h'
  generalize nrm E.n0 (resTs fn.results.toList) false p.2 = σ at h2 hp2
  have fin : (match resV E.P σ.hp.length σ (fn.results.toList.zip fn.resultTypes.toList) with
      | some vs => Tree.leaf (vs, outB σ.hp.length (firstB σ.hp.length σ.hp))
      | none => .fail).run = some out → a'.defers = [] ∧ ∃ v, (results fn a'.tmps).run E.P w' = .ok v w' ∧ ∃ v_1, Ending.returned v = .returned v_1 ∧ Post E.P E.cd M Fz w (resD out.1) out.2 v_1 w' := by
    intro hfin
    obtain ⟨M', F', h3⟩ := h2
    refine ⟨h3.defers, ?_⟩
    split at hfin
    · rename_i vs hvs
      simp only [Tree.run, Option.some.injEq] at hfin
      rw [← hfin]
      obtain ⟨us, u1, u2⟩ := resV_ok ok h3.hr h3.tm σ.hp.length fn.results.toList fn.resultTypes.toList vs (by simpa using hrs) hvs
      have hpost : ∀ v, RD E.P E.cd (cutM σ.hp.length M') F' w' (resD vs) v → Post E.P E.cd M Fz w (resD vs) (outB σ.hp.length (firstB σ.hp.length σ.hp)) v w' := by
        intro v hv
        have le : ∀ b i, cutM σ.hp.length M' b = some i → M' b = some i := fun b i hb => by
          unfold cutM at hb
          split at hb
          · exact hb
          · cases hb
        refine ⟨cutM σ.hp.length M', F', hv, cut_hr ok h3.hr σ.hp.length, ?_, ?_, h3.keep, ?_, h3.f1⟩
        · intro b i hb
          obtain ⟨i', e1, e2⟩ := h3.ext b i hb
          have : b < σ.hp.length := by
            rcases Nat.lt_or_ge b σ.hp.length with h' | h'
            · exact h'
            · rw [h3.hr.out b h'] at e1; cases e1
          exact ⟨i', by simp [cutM, this, e1], e2⟩
        · intro k hk
          exact ⟨h3.f0 k hk, h3.keep.old k (hr.frz k hk) (fun ⟨b, i, e1, e2⟩ => hr.apart b i k e1 e2 hk)⟩
        · rintro k ⟨b, i, e1, e2⟩
          exact h3.own k ⟨b, i, le b i e1, e2⟩
      have hmap : ∀ (f : ResultVar → Sem Value) (l : Array ResultVar) (us : List Value), (l.toList.mapM f).run E.P w' = .ok us w' → (l.mapM f).run E.P w' = .ok us.toArray w' := by
        intro f l us hh
        rw [Array.mapM_eq_mapM_toList]
        show (do let __x ← l.toList.mapM f; pure __x.toArray : Sem (Array Value)).run E.P w' = _
        simp only [Sem.run_bind, hh, Result.andThen, Sem.run_pure]
      have hres := hmap _ _ _ u1
      refine ⟨if h : us.toArray.size = 1 then us.toArray[0] else .tuple us.toArray, ?_, _, rfl, ?_⟩
      · have hfun : results fn a'.tmps = (do let vs ← fn.results.mapM (resF a'.tmps); pure (if h : vs.size = 1 then vs[0] else .tuple vs)) := by
          unfold results
          congr 1
        rw [hfun]
        simp only [Sem.run_bind, hres, Result.andThen, Sem.run_pure]
      · refine hpost _ ?_
        have hul := u2.1
        match vs, us, u2, hul with
        | [y], [u], u2, _ => exact u2.2 0 y u rfl rfl
        | [], [], u2, _ => exact ⟨#[], rfl, u2⟩
        | y :: z :: vs, u :: u' :: us, u2, _ =>
          have : ¬ (u :: u' :: us).toArray.size = 1 := by simp
          rw [dif_neg this]
          exact ⟨_, rfl, by simpa using u2⟩
    · cases hfin
  obtain ⟨e, σ'⟩ := p
  cases e with
  | norm => exact fin hp2
  | exit id => cases hp2
  | ret => exact fin hp2
end
/-- either kind -/
def execX (fresh : Bool) (E : Env U) (f : Func) (args : List (V U)) (hp : List (Blk U)) : Tree (List (V U) × List (Blk U)) := bif fresh then execF2 E f args hp else execF E f args hp
def mkSpecG (A : Arg U α) (B : Bls U γ) (F : α → γ → Option β) (out : α → γ → β → List (V U) × List (Blk U)) (args : List (V U)) (hp : List (Blk U)) : Option (FnOut U) :=
  match A.dec args, B.dec hp with
  | some x, some g => some ⟨β, F x g, fun y => .leaf (out x g y)⟩
  | _, _ => none
def mkSpecG2 {β' : Type} (A : Arg U α) (B : Bls U γ) (F : α → γ → Option (β ⊕ β')) (out : α → γ → β → List (V U) × List (Blk U)) (out' : α → γ → β' → List (V U) × List (Blk U)) (args : List (V U)) (hp : List (Blk U)) : Option (FnOut U) :=
  match A.dec args, B.dec hp with
  | some x, some g => some ⟨β ⊕ β', F x g, fun y => .ite y.isLeft (.opt β y.getLeft? fun z => .leaf (out x g z)) (.opt β' y.getRight? fun z => .leaf (out' x g z))⟩
  | _, _ => none
section
variable {E : Env U}
theorem fn_okX (fresh : Bool) (ok : CdOk E.P E.cd) (env : ∀ f p s, E.fns f = some (p, s) → FnOk E.P E.cd f s) {f : Nat} {fn : Func} (hf : E.P.funcs[f]? = some fn) (hname : (fn.name == "runtime.NumGoroutine") = false) (hl : ∀ c, fn.body = some c → LoopsOk E c 0)
    {spec : List (V U) → List (Blk U) → Option (FnOut U)} (hs : ∀ args hp r, spec args hp = some r → ∀ x, r.o = some x → ∀ p, (r.out x).run = some p → (execX fresh E fn args hp).run = some p) : FnOk E.P E.cd f spec := by
  cases fresh with
  | true => exact fn_ok2 ok env hf hname hl hs
  | false => exact fn_ok ok env hf hname hl hs
theorem mk_okG (fresh : Bool) (ok : CdOk E.P E.cd) (env : ∀ f p s, E.fns f = some (p, s) → FnOk E.P E.cd f s) {f : Nat} {fn : Func} (hf : E.P.funcs[f]? = some fn) (hname : (fn.name == "runtime.NumGoroutine") = false) (hl : ∀ c, fn.body = some c → LoopsOk E c 0)
    {A : Arg U α} {B : Bls U γ} (hA : A.Ok) (hB : B.Ok) {T : α → γ → Tree β} {F : α → γ → Option β} {out : α → γ → β → List (V U) × List (Blk U)} (hF : ∀ x g, F x g = (T x g).run) (hrun : ∀ x g, execX fresh E fn (A.enc x) (B.enc g) = (T x g).map (out x g)) : FnOk E.P E.cd f (mkSpecG A B F out) := by
  refine fn_okX fresh ok env hf hname hl fun args hp r hs x hx p hp => ?_
  unfold mkSpecG at hs
  split at hs
  · rename_i y g h1 h2
    injection hs with hs
    subst hs
    rw [hA _ _ h1, hB _ _ h2, hrun, Tree.run_map]
    have hx : F y g = some x := hx
    have hp : some (out y g x) = some p := hp
    rw [← hF, hx, ← hp]
    rfl
  · cases hs
theorem mk_okG2 {β' : Type} (fresh : Bool) (ok : CdOk E.P E.cd) (env : ∀ f p s, E.fns f = some (p, s) → FnOk E.P E.cd f s) {f : Nat} {fn : Func} (hf : E.P.funcs[f]? = some fn) (hname : (fn.name == "runtime.NumGoroutine") = false) (hl : ∀ c, fn.body = some c → LoopsOk E c 0)
    {A : Arg U α} {B : Bls U γ} (hA : A.Ok) (hB : B.Ok) {T : α → γ → Tree (β ⊕ β')} {F : α → γ → Option (β ⊕ β')} {out : α → γ → β → List (V U) × List (Blk U)} {out' : α → γ → β' → List (V U) × List (Blk U)} (hF : ∀ x g, F x g = (T x g).run)
    (hrun : ∀ x g, execX fresh E fn (A.enc x) (B.enc g) = (T x g).map (Sum.elim (out x g) (out' x g))) : FnOk E.P E.cd f (mkSpecG2 A B F out out') := by
  refine fn_okX fresh ok env hf hname hl fun args hp r hs x hx p hp => ?_
  unfold mkSpecG2 at hs
  split at hs
  · rename_i y g h1 h2
    injection hs with hs
    subst hs
    rw [hA _ _ h1, hB _ _ h2, hrun, Tree.run_map]
    have hx : F y g = some x := hx
    rw [← hF, hx]
    cases x with
    | inl z => exact hp
    | inr z => exact hp
  · cases hs
end
/-- one contract or the other -/
def orSpec (s t : List (V U) → List (Blk U) → Option (FnOut U)) (args : List (V U)) (hp : List (Blk U)) : Option (FnOut U) := match s args hp with
  | some r => some r
  | none => t args hp
theorem orSpec_ok {P : Program} {cd : Cd U} {f : Nat} {s t : List (V U) → List (Blk U) → Option (FnOut U)} (hs : FnOk P cd f s) (ht : FnOk P cd f t) : FnOk P cd f (orSpec s t) := by
  intro M Fz w hp args vargs h1 h2 r hr
  unfold orSpec at hr
  split at hr
  · rename_i r' e
    injection hr with hr
    subst hr
    exact hs M Fz w hp args vargs h1 h2 r' e
  · exact ht M Fz w hp args vargs h1 h2 r hr
/-- a function value whose captured variables are handed as blocks -/
def sameL : List (C U) → List (C U) → Bool
  | [], [] => true
  | x :: l, y :: k => bif sameC x y then sameL l k else false
  | _, _ => false
theorem sameL_ok : ∀ {l k : List (C U)}, sameL l k = true → k = l
  | [], [], _ => rfl
  | x :: l, y :: k, h => by
    simp only [sameL, cond_eq_ite] at h
    split at h
    · rename_i hx
      rw [sameC_ok hx, sameL_ok h]
    · cases h
  | [], _ :: _, h => by cases h
  | _ :: _, [], h => by cases h
def sameC2 : C U → C U → Bool
  | .fn f [] a, .fn f' [] b => bif Nat.beq f f' then sameL a b else false
  | x, z => sameC x z
theorem sameC2_ok {x z : C U} (h : sameC2 x z = true) : z = x := by
  unfold sameC2 at h
  split at h
  · rw [cond_eq_ite] at h
    split at h
    · rename_i hf
      rw [Nat.eq_of_beq_eq_true hf, sameL_ok h]
    · cases h
  · exact sameC_ok h
def cK2 (x : C U) (c : Cdc U α) : Cdc U α := cLit x (sameC2 x) c
theorem cK2_ok {x : C U} {c : Cdc U α} (hc : c.Ok) : (cK2 x c).Ok := cLit_ok hc fun _ h => sameC2_ok h
def aF (f : Nat) (cs : List (C U)) (r : Arg U β) : Arg U β := ⟨fun x => .one (.fn f [] cs) :: r.enc x, fun
  | .one (.fn f' [] cs') :: l => bif Nat.beq f' f && sameL cs cs' then r.dec l else none
  | _ => none⟩
theorem aF_ok {f : Nat} {cs : List (C U)} {r : Arg U β} (hr : r.Ok) : (aF f cs r).Ok := by
  intro vs x h
  simp only [aF, cond_eq_ite] at h
  split at h
  · split at h
    · rename_i hb
      simp only [Bool.and_eq_true] at hb
      rw [hr _ _ h, Nat.eq_of_beq_eq_true hb.1, sameL_ok hb.2]
      rfl
    · cases h
  · cases h
end Go.Ab
