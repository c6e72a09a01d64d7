/- A call to which rows are handed for good. -/
import Derived.Test.YtjhibcebipjbcaaAbFun
set_option linter.unusedSimpArgs false
namespace Go.Ab
variable {U : Nat → Type} {α β γ : Type}
/-- rows are taken for good: what stands in their places is empty -/
def taken (hp : List (Blk U)) : Blk U → Blk U
  | .cells cs => .cells (cs.map (frzC 0 hp))
  | .row t v _ => .row t (v + 1) []
  | .dead => .dead
def frzSpec (spec : List (V U) → List (Blk U) → Option (FnOut U)) (args : List (V U)) (hp : List (Blk U)) : Option (FnOut U) :=
  match spec (args.map fun y => renV (fun _ _ => none) (canV (frzV 0 hp y))) [] with
  | some r => some ⟨r.β, r.o, fun x => (r.out x).map fun p => (p.1.map (renV fun _ _ => none), hp.map (taken hp))⟩
  | none => none
section
variable {P : Program} {cd : Cd U} {M M' : Mp} {Fz Fz' : Nat → Prop} {w w' : World}
def takM (hp : List (Blk U)) (M : Mp) : Mp := fun b => match hp[b]? with
  | some (.row t v _) => some (.row none t (v + 1) 0 0)
  | _ => M b
theorem frzM_takM (hp : List (Blk U)) (M : Mp) : Ext (frzM 0 hp M) (takM hp M) := by
  intro b i h
  simp only [frzM, Nat.not_lt_zero, if_false] at h
  simp only [takM]
  split at h
  · cases h
  · rename_i hne
    refine ⟨i, ?_, .refl i⟩
    split
    · rename_i t v l e; exact absurd e (hne t v l)
    · exact h
theorem ext_takM {hp : List (Blk U)} (h : HR P cd M Fz hp w) : Ext M (takM hp M) := by
  intro b i hb
  simp only [takM]
  split
  · rename_i t v l e
    have := h.blk b _ e
    obtain ⟨pos, cap, e1, _⟩ := this
    rw [hb] at e1
    injection e1 with e1
    subst e1
    exact ⟨_, rfl, .later _ _ _ _ _ _ _ _ _ _ (Nat.lt_succ_self v)⟩
  · exact ⟨i, hb, .refl i⟩
theorem takM_le {hp : List (Blk U)} {b : Nat} {i : Inf} {k : Nat} (h : takM hp M b = some i) (hk : i.blk = some k) : frzM 0 hp M b = some i := by
  simp only [takM] at h
  simp only [frzM, Nat.not_lt_zero, if_false]
  split at h
  · injection h with h; subst h; cases hk
  · rename_i hne
    split
    · rename_i t v l e; exact absurd e (hne t v l)
    · exact h
theorem HR.taken (ok : CdOk P cd) {hp : List (Blk U)} (h : HR P cd M Fz hp w) : HR P cd (takM hp M) (fun k => Fz k ∨ RowAt 0 hp M k) (hp.map (taken hp)) w := by
  have hf := h.frzn ok 0
  have he : Ext (frzM 0 hp M) (takM hp M) := frzM_takM hp M
  refine ⟨fun b x hx => ?_, fun b hb => ?_, fun b b' i i' k h1 h2 h3 h4 => hf.inj b b' i i' k (takM_le h1 h3) (takM_le h2 h4) h3 h4, fun b i k h1 h2 => hf.apart b i k (takM_le h1 h2) h2, hf.frz, fun b i k h1 h2 => hf.lt b i k (takM_le h1 h2) h2⟩
  · rw [List.getElem?_map] at hx
    obtain ⟨y, hy, rfl⟩ := Option.map_eq_some_iff.1 hx
    have hb := h.blk b y hy
    cases y with
    | dead =>
      show takM hp M b = none
      simp only [takM, hy]
      exact hb
    | cells cs =>
      have hb2 := hf.blk b (.cells (cs.map (frzC 0 hp))) (by rw [frzHp_get, hy]; rfl)
      obtain ⟨k, arr, e, e1, e2, e3⟩ := hb2
      refine ⟨k, arr, e, ?_, e2, e3.mono he (Frz.refl _ _)⟩
      simp only [frzM, Nat.not_lt_zero, if_false, hy] at e1
      simp only [takM, hy]
      exact e1
    | row t v l =>
      refine ⟨none, 0, ?_, rfl⟩
      simp only [takM, hy]
      rfl
  · rw [List.length_map] at hb
    simp only [takM]
    rw [List.getElem?_eq_none hb]
    exact h.out b hb
theorem fnOk_frz (ok : CdOk P cd) {f : Nat} {spec : List (V U) → List (Blk U) → Option (FnOut U)} (hout : ∀ a h r, spec a h = some r → ∀ x p, (r.out x).run = some p → p.2 = []) (h : FnOk P cd f spec) : FnOk P cd f (frzSpec spec) := by
  intro M Fz w hp args vargs hhr hargs r hs x hx out hout2
  unfold frzSpec at hs
  split at hs
  · rename_i r0 hr0
    injection hs with hs
    subst hs
    have hx : r0.o = some x := hx
    rw [Tree.run_map] at hout2
    obtain ⟨p0, hp0, rfl⟩ := Option.map_eq_some_iff.1 hout2
    have h2 := hhr.taken ok
    have ha : RVs P cd (takM hp M) (fun k => Fz k ∨ RowAt 0 hp M k) w (args.map (frzV 0 hp)) vargs := by
      refine ⟨by simp [hargs.1], fun j y v hy hv => ?_⟩
      rw [List.getElem?_map] at hy
      obtain ⟨z, hz, rfl⟩ := Option.map_eq_some_iff.1 hy
      exact ((hargs.2 j z v hz hv).frz ok hhr 0).mono (frzM_takM hp M) (Frz.refl _ _)
    have hr : Renum (takM hp M) (small 0 (takM hp M) []) (fun _ _ => none) := Renum.none _ _
    have hargs2 := map_map3 (ha.can ok) ok hr
    rw [List.map_map] at hargs2
    obtain ⟨fn, h1, h3, h4, hc⟩ := h (small 0 (takM hp M) []) _ w [] _ vargs (small_hr ok h2 0 (order := []) List.nodup_nil) hargs2 r0 hr0 x hx p0 hp0
    refine ⟨fn, h1, h3, h4, hc.mono fun e w' ⟨v, he, hp1⟩ => ⟨v, he, ?_⟩⟩
    rw [hout _ _ _ hr0 x p0 hp0] at hp1
    obtain ⟨M', Fz', p1, p2, p3, p4, p5, p6, p7⟩ := call_core ok (order := []) (R := hp.map (Go.Ab.taken hp)) h2 List.nodup_nil (fun x hx => by simp at hx) hp1 (by simp [putBack, putBack.go]) (.inr rfl)
    have hheld : ∀ k, Held (takM hp M) k → Held M k := by
      rintro k ⟨b, i, e1, e2⟩
      exact ⟨b, i, frzM_le 0 hp M (takM_le e1 e2), e2⟩
    refine ⟨M', Fz', p1, p2, (ext_takM hhr).trans p3, fun k hk => p4 k (.inl hk), ⟨p5.os, p5.tape, p5.output, p5.size, fun k hk hn => p5.old k hk fun hk' => hn (hheld k hk')⟩, fun k hk => (p6 k hk).imp (hheld k) id, fun k hk => ?_⟩
    rcases p7 k hk with (h' | ⟨b, t, v, l, _, _, i, e1, e2⟩) | h' | h'
    · exact .inl h'
    · exact .inr (.inl ⟨b, i, e1, e2⟩)
    · exact .inr (.inl (hheld k h'))
    · exact .inr (.inr h')
  · cases hs
theorem mkSpec_out {A : Arg U α} {B : Bls U γ} {F : α → γ → Option β} {out : β → List (V U) × List (Blk U)} (h : ∀ x, (out x).2 = []) : ∀ a hp r, mkSpec A B F out a hp = some r → ∀ x p, (r.out x).run = some p → p.2 = [] := by
  intro a hp r hs x p hp
  unfold mkSpec at hs
  split at hs
  · injection hs with hs; subst hs; injection hp with hp; rw [← hp]; exact h x
  · cases hs
end
end Go.Ab
