/- Chapter 9: what the typed functions of the memory management unit come to. -/
import Derived.Test.YtocjgcccbfmoeaaAb09
import Derived.Test.YtocjgcccbfmoeaaAbRd09
import Derived.Test.YtocjgcccbfmoeaaAbLim
import Derived.Test.YtocjgcccbfmoeaaAbBits
set_option linter.unusedSimpArgs false
namespace Go.Proofs.Ytocjgcccbfmoeaa
open Go Go.Ab
theorem alive_true : law09_alive none = some true := lelaw09_alive 20 true (by kernel_rfl)
theorem from_def (x m : Int) : mmu_from x m = some (decide (0 ≤ x ∧ x ≤ m)) := by
  simp only [mmu_from, Tmmu_from, Tree.run]
  by_cases h : 0 ≤ x <;> simp [h]
def OkPage (p : Page) : Prop := (0 ≤ p.base ∧ p.base ≤ 4095) ∧ (0 ≤ p.length ∧ p.length ≤ 128) ∧ (0 ≤ p.access ∧ p.access ≤ 2)
instance (p : Page) : Decidable (OkPage p) := by unfold OkPage; infer_instance
/-- a valid unit -/
def Rt (u : Mmu) : Prop := (∀ p ∈ u.pages, OkPage p) ∧ (0 ≤ u.status ∧ u.status ≤ 3) ∧ (0 ≤ u.addr ∧ u.addr ≤ 65535)
instance (u : Mmu) : Decidable (Rt u) := by unfold Rt; infer_instance
theorem all_pages {l : List Page} (h : l.length = 16) {Q : Page → Prop} : (∀ p ∈ l, Q p) ↔ ∀ m, m < 2 → ∀ j, j < 8 → ∀ p, l[m * 8 + j]? = some p → Q p := by
  constructor
  · intro hp m hm j hj p hq
    exact hp p (List.mem_of_getElem? hq)
  · intro hp p hq
    obtain ⟨i, hi, rfl⟩ := List.mem_iff_getElem.1 hq
    exact hp (i / 8) (by omega) (i % 8) (by omega) _ (by rw [show i / 8 * 8 + i % 8 = i by omega]; exact List.getElem?_eq_getElem hi)
theorem ref_Right_def (u : Mmu) (h : u.pages.length = 16) : ref09_Right none u = some (decide (Rt u)) := by
  -- the pages of a mode
  have inner : ∀ m : Nat, m < 2 → ((∀ j, j < 8 → ∀ p, u.pages[m * 8 + j]? = some p → OkPage p) ∧ Lref09_Right_1 none ⟨(m : Int), 0, u⟩ = some (.inr ((m : Int), u))) ∨ ∃ j, j < 8 ∧ (¬ ∀ p, u.pages[m * 8 + j]? = some p → OkPage p) ∧ Lref09_Right_1 none ⟨(m : Int), 0, u⟩ = some (.inl (false, (m : Int), u)) := by
    intro m hm
    refine lim_scan (f := fun s => (Wref09_Right_1 s).run) (fun j : Nat => ⟨(m : Int), (j : Int), u⟩) 8 (fun j => ∀ p, u.pages[m * 8 + j]? = some p → OkPage p) (fun _ => .inl (false, (m : Int), u)) (.inr ((m : Int), u)) (fun j hj hp => ?_) (fun j hj hp => ?_) ?_
    · have hlt : m * 8 + j < u.pages.length := by omega
      have hg := List.getElem?_eq_getElem hlt
      obtain ⟨h1, h2, h3⟩ := hp _ hg
      have hw : IntKind.wrap .i64 ((j : Int) + 1) = ((j + 1 : Nat) : Int) := by rw [wrap_id] <;> omega
      simp only [Wref09_Right_1, Tree.run, decide_eq_true_eq, Int.toNat_natCast, Nat.mul_one, hg, Option.bind_some]
      rw [if_pos (by omega), if_pos (by omega), if_pos (by omega), if_pos (by omega), if_pos (by omega), if_neg (by omega), if_neg (by omega), if_neg (by omega), if_neg (by omega), if_neg (by omega), if_neg (by omega), hw]
    · have hlt : m * 8 + j < u.pages.length := by omega
      have hg := List.getElem?_eq_getElem hlt
      have hp : ¬ OkPage u.pages[m * 8 + j] := fun hk => hp fun p hq => by rw [hg] at hq; injection hq with hq; rw [← hq]; exact hk
      simp only [Wref09_Right_1, Tree.run, decide_eq_true_eq, Int.toNat_natCast, Nat.mul_one, hg, Option.bind_some]
      rw [if_pos (by omega), if_pos (by omega), if_pos (by omega), if_pos (by omega), if_pos (by omega)]
      unfold OkPage at hp
      repeat' split
      all_goals first | rfl | (exfalso; omega)
    · simp [Wref09_Right_1, Tree.run]
  have outer := lim_scan (f := fun s => (Wref09_Right_0 none s).run) (fun m : Nat => ⟨(m : Int), u⟩) 2 (fun m => ∀ j, j < 8 → ∀ p, u.pages[m * 8 + j]? = some p → OkPage p) (fun _ => .inl (false, u)) (.inr u) (fun m hm hp => by
      have hw : IntKind.wrap .i64 ((m : Int) + 1) = ((m + 1 : Nat) : Int) := by rw [wrap_id] <;> omega
      rcases inner m hm with ⟨_, e⟩ | ⟨j, hj, hn, _⟩
      · simp only [Wref09_Right_0, Tree.run, decide_eq_true_eq, e, Option.bind_some]
        rw [if_pos (by omega)]
        simp [hw]
      · exact absurd (hp j hj) hn) (fun m hm hp => by
      rcases inner m hm with ⟨h1, _⟩ | ⟨j, hj, _, e⟩
      · exact absurd h1 hp
      · simp only [Wref09_Right_0, Tree.run, decide_eq_true_eq, e, Option.bind_some]
        rw [if_pos (by omega)]
        simp) (by simp [Wref09_Right_0, Tree.run])
  rw [show ((0 : Nat) : Int) = 0 from rfl] at outer
  rcases outer with ⟨hall, e⟩ | ⟨m, hm, hn, e⟩
  · have e : Lref09_Right_0 none ⟨0, u⟩ = some (.inr u) := e
    have hp := (all_pages h).2 hall
    simp only [ref09_Right, Tref09_Right, Tree.run, e, Option.bind_some, decide_eq_true_eq, Sum.isLeft_inr, Sum.getRight?_inr, Bool.false_eq_true, if_false]
    unfold Rt
    simp only [eq_true hp, true_and]
    repeat' split
    all_goals (rw [Option.some.injEq, Bool.eq_iff_iff]; simp; try omega)
  · have e : Lref09_Right_0 none ⟨0, u⟩ = some (.inl (false, u)) := e
    have hp : ¬ Rt u := fun hr => hn ((all_pages h).1 hr.1 m hm)
    simp [ref09_Right, Tref09_Right, Tree.run, e, hp]
theorem mmu_Right_def (u : Mmu) (h : u.pages.length = 16) : mmu_Right none u = some (decide (Rt u)) := by
  have inner : ∀ m : Nat, m < 2 → ((∀ j, j < 8 → ∀ p, u.pages[m * 8 + j]? = some p → OkPage p) ∧ Lmmu_Right_1 none ⟨u.pages, (m : Int), (u.pages.drop (m * 8)).take 8, 0, u⟩ = some (.inr (u.pages, (m : Int), u))) ∨ ∃ j, j < 8 ∧ (¬ ∀ p, u.pages[m * 8 + j]? = some p → OkPage p) ∧ Lmmu_Right_1 none ⟨u.pages, (m : Int), (u.pages.drop (m * 8)).take 8, 0, u⟩ = some (.inl (false, u.pages, (m : Int), u)) := by
    intro m hm
    have hget : ∀ j, j < 8 → ((u.pages.drop (m * 8)).take 8)[j]? = u.pages[m * 8 + j]? := by
      intro j hj
      rw [List.getElem?_take, if_pos hj, List.getElem?_drop]
    refine lim_scan (f := fun s => (Wmmu_Right_1 s).run) (fun j : Nat => ⟨u.pages, (m : Int), (u.pages.drop (m * 8)).take 8, (j : Int), u⟩) 8 (fun j => ∀ p, u.pages[m * 8 + j]? = some p → OkPage p) (fun _ => .inl (false, u.pages, (m : Int), u)) (.inr (u.pages, (m : Int), u)) (fun j hj hp => ?_) (fun j hj hp => ?_) ?_
    · have hlt : m * 8 + j < u.pages.length := by omega
      have hg := List.getElem?_eq_getElem hlt
      obtain ⟨h1, h2, h3⟩ := hp _ hg
      have hw : IntKind.wrap .i64 ((j : Int) + 1) = ((j + 1 : Nat) : Int) := by rw [wrap_id] <;> omega
      simp only [Wmmu_Right_1, Tree.run, decide_eq_true_eq, Int.toNat_natCast, hget j hj, hg, Option.bind_some, from_def]
      rw [if_pos (by omega), if_pos (by omega), if_pos (by omega)]
      simp [h1, h2, h3, hw]
    · have hlt : m * 8 + j < u.pages.length := by omega
      have hg := List.getElem?_eq_getElem hlt
      have hp : ¬ OkPage u.pages[m * 8 + j] := fun hk => hp fun p hq => by rw [hg] at hq; injection hq with hq; rw [← hq]; exact hk
      simp only [Wmmu_Right_1, Tree.run, decide_eq_true_eq, Int.toNat_natCast, hget j hj, hg, Option.bind_some, from_def]
      rw [if_pos (by omega), if_pos (by omega), if_pos (by omega)]
      unfold OkPage at hp
      simp only [Bool.not_eq_true', decide_eq_false_iff_not]
      repeat' split
      all_goals first | rfl | (exfalso; simp_all)
    · simp [Wmmu_Right_1, Tree.run]
  have outer := lim_scan (f := fun s => (Wmmu_Right_0 none s).run) (fun m : Nat => ⟨u.pages, (m : Int), u⟩) 2 (fun m => ∀ j, j < 8 → ∀ p, u.pages[m * 8 + j]? = some p → OkPage p) (fun _ => .inl (false, u)) (.inr u) (fun m hm hp => by
      have hw : IntKind.wrap .i64 ((m : Int) + 1) = ((m + 1 : Nat) : Int) := by rw [wrap_id] <;> omega
      rcases inner m hm with ⟨_, e⟩ | ⟨j, hj, hn, _⟩
      · simp only [Wmmu_Right_0, Tree.run, decide_eq_true_eq, Int.toNat_natCast, e, Option.bind_some]
        rw [if_pos (by omega), if_pos (by omega), if_pos (by omega), if_pos (by omega)]
        simp [hw]
      · exact absurd (hp j hj) hn) (fun m hm hp => by
      rcases inner m hm with ⟨h1, _⟩ | ⟨j, hj, _, e⟩
      · exact absurd h1 hp
      · simp only [Wmmu_Right_0, Tree.run, decide_eq_true_eq, Int.toNat_natCast, e, Option.bind_some]
        rw [if_pos (by omega), if_pos (by omega), if_pos (by omega), if_pos (by omega)]
        simp) (by simp [Wmmu_Right_0, Tree.run])
  rcases outer with ⟨hall, e⟩ | ⟨m, hm, hn, e⟩
  · have e : Lmmu_Right_0 none ⟨u.pages, 0, u⟩ = some (.inr u) := e
    have hp := (all_pages h).2 hall
    simp only [mmu_Right, Tmmu_Right, Tree.run, e, Option.bind_some, decide_eq_true_eq, Sum.isLeft_inr, Sum.getRight?_inr, Bool.false_eq_true, if_false, from_def]
    unfold Rt
    simp only [eq_true hp, true_and]
    repeat' split
    all_goals (rw [Option.some.injEq, Bool.eq_iff_iff]; simp_all; try omega)
  · have e : Lmmu_Right_0 none ⟨u.pages, 0, u⟩ = some (.inl (false, u)) := e
    have hp : ¬ Rt u := fun hr => hn ((all_pages h).1 hr.1 m hm)
    simp [mmu_Right, Tmmu_Right, Tree.run, e, hp]
theorem word_def (x : Int) : ref09_word x = some (x % 65536) := by
  simp only [ref09_word, Tref09_word, Tree.run, decide_eq_true_eq]
  have h0 := Int.emod_nonneg x (show (65536 : Int) ≠ 0 by omega)
  have h1 := Int.emod_lt_of_pos x (show (0 : Int) < 65536 by omega)
  rw [if_neg (by omega)]
  rcases tmod_up x 65536 (by omega) with ⟨a, b⟩ | ⟨a, b⟩
  · rw [if_pos a, b, wrap_id (by omega) (by omega)]
  · rw [if_neg (by omega), b]
/-- the fault of an access -/
def faultOf (x : Page) (o : Int) (w : Bool) : Int := if x.access = 0 then 1 else if x.length ≤ o / 64 then 2 else if w = true ∧ x.access ≠ 2 then 3 else 0
theorem fault_def (x : Page) (o : Int) (w : Bool) (h0 : 0 ≤ o) (h1 : o < 8192) : ref09_fault x o w = some (faultOf x o w) := by
  simp only [ref09_fault, Tref09_fault, Tree.run, decide_eq_true_eq, tdiv_nn h0, wrap_id (show -9223372036854775808 ≤ o / 64 by omega) (by omega), faultOf]
  by_cases ha : x.access = 0
  · simp [ha]
  · by_cases hl : x.length ≤ o / 64
    · simp [ha, hl]
    · cases w <;> by_cases h2 : x.access = 2 <;> simp [ha, hl, h2]
/-- the place of a page -/
def kx (mode a : Int) : Nat := (mode % 2).toNat * 8 + (a / 8192).toNat * 1
theorem kx_eq (mode a : Int) : (mode % 2).toNat * 8 + (a / 8192).toNat * 1 = kx mode a := rfl
def translated (u : Mmu) (mode addr : Int) (w : Bool) : Int × Mmu × Int :=
  let a := addr % 65536
  if u.on = false then (if a < 57344 then (a, u, 0) else (a + 196608, u, 0)) else
    match u.pages[kx mode a]? with
    | none => (0, u, 0)
    | some x => if faultOf x (a % 8192) w ≠ 0 then (0, { u with status := faultOf x (a % 8192) w, addr := a }, 8) else
      ((64 * x.base + a % 8192) % 262144, if w then { u with pages := u.pages.set (kx mode a) { x with written := true } } else u, 0)
theorem kx_lt {mode a : Int} (h0 : 0 ≤ a) (h1 : a < 65536) : kx mode a < 16 := by
  have h2 := Int.emod_nonneg mode (show (2 : Int) ≠ 0 by omega)
  have h3 := Int.emod_lt_of_pos mode (show (0 : Int) < 2 by omega)
  unfold kx
  omega
theorem ref_Translate_def (u : Mmu) (mode addr : Int) (w : Bool) (h : u.pages.length = 16) (hr : Rt u) : ref09_Translate u mode addr w = some (translated u mode addr w) := by
  have h0 := Int.emod_nonneg addr (show (65536 : Int) ≠ 0 by omega)
  have h1 := Int.emod_lt_of_pos addr (show (0 : Int) < 65536 by omega)
  have h2 := Int.emod_nonneg mode (show (2 : Int) ≠ 0 by omega)
  have h3 := Int.emod_lt_of_pos mode (show (0 : Int) < 2 by omega)
  have hk := kx_lt (mode := mode) h0 h1
  unfold translated
  generalize ha : addr % 65536 = a at h0 h1 hk
  have hlt : kx mode a < u.pages.length := by omega
  have hg := List.getElem?_eq_getElem hlt
  have hx := hr.1 _ (List.getElem_mem hlt)
  generalize u.pages[kx mode a] = x at hg hx
  obtain ⟨⟨b0, b1⟩, _, _⟩ := hx
  have hw1 : IntKind.wrap .i64 (a / 8192) = a / 8192 := wrap_id (by omega) (by omega)
  have hw2 : IntKind.wrap .i64 (a + 196608) = a + 196608 := wrap_id (by omega) (by omega)
  have hw3 : IntKind.wrap .i64 (64 * x.base) = 64 * x.base := wrap_id (by omega) (by omega)
  have hw4 : IntKind.wrap .i64 (64 * x.base + a % 8192) = 64 * x.base + a % 8192 := wrap_id (by omega) (by omega)
  have hm : (64 * x.base + a % 8192).tmod 262144 = (64 * x.base + a % 8192) % 262144 := tmod_nn (by omega) _
  have hf := fault_def x (a % 8192) w (by omega) (by omega)
  simp only [ref09_Translate, Tref09_Translate, Tree.run, word_def, ha, Option.bind_some, and1, tdiv_nn h0, tmod_nn h0, hw1, hw2, decide_eq_true_eq, kx_eq, hg, hf]
  cases hon : u.on
  · simp
    split <;> rfl
  · have q0 : 0 ≤ a / 8192 := by omega
    have q1 : a / 8192 < 8 := by omega
    simp only [hg, Bool.not_true, Bool.false_eq_true, if_false]
    by_cases hz : faultOf x (a % 8192) w = 0
    · cases w
      · simp [hz, h2, h3, q0, q1, hw3, hw4, hm]
      · simp [hz, h2, h3, q0, q1, hw3, hw4, hm, List.getElem?_set_self hlt, hon]
    · simp [hz, h2, h3, q0, q1, hon]
theorem mmu_Translate_def (u : Mmu) (mode addr : Int) (w : Bool) (h : u.pages.length = 16) (hr : Rt u) : mmu_Translate u mode addr w = some (translated u mode addr w) := by
  have h0 := Int.emod_nonneg addr (show (65536 : Int) ≠ 0 by omega)
  have h1 := Int.emod_lt_of_pos addr (show (0 : Int) < 65536 by omega)
  have h2 := Int.emod_nonneg mode (show (2 : Int) ≠ 0 by omega)
  have h3 := Int.emod_lt_of_pos mode (show (0 : Int) < 2 by omega)
  have hk := kx_lt (mode := mode) h0 h1
  unfold translated
  generalize ha : addr % 65536 = a at h0 h1 hk
  have hlt : kx mode a < u.pages.length := by omega
  have hg := List.getElem?_eq_getElem hlt
  have hx := hr.1 _ (List.getElem_mem hlt)
  have hset := List.set_getElem_self hlt
  generalize u.pages[kx mode a] = x at hg hx hset
  obtain ⟨⟨b0, b1⟩, _, ⟨a0, a1⟩⟩ := hx
  have hw1 : IntKind.wrap .i64 (a / 8192) = a / 8192 := wrap_id (by omega) (by omega)
  have hw2 : IntKind.wrap .i64 (a + 196608) = a + 196608 := wrap_id (by omega) (by omega)
  have hw3 : IntKind.wrap .i64 (x.base * 64) = 64 * x.base := by rw [wrap_id (by omega) (by omega)]; omega
  have hw4 : IntKind.wrap .i64 (64 * x.base + a % 8192) = 64 * x.base + a % 8192 := wrap_id (by omega) (by omega)
  have hw5 : IntKind.wrap .i64 (a % 8192 / 64) = a % 8192 / 64 := wrap_id (by omega) (by omega)
  have hm : (64 * x.base + a % 8192).tmod 262144 = (64 * x.base + a % 8192) % 262144 := tmod_nn (by omega) _
  have o0 : 0 ≤ a % 8192 := by omega
  simp only [mmu_Translate, Tmmu_Translate, Tree.run, and65535, ha, Option.bind_some, and1, tdiv_nn h0, tmod_nn h0, tdiv_nn o0, hw1, hw2, hw5, decide_eq_true_eq, kx_eq, hg]
  cases hon : u.on
  · simp only [Bool.not_false, if_true]
    by_cases hc : 57344 ≤ a
    · rw [if_pos hc, if_neg (by omega)]
    · rw [if_neg hc, if_pos (by omega)]
  · have q0 : 0 ≤ a / 8192 := by omega
    have q1 : a / 8192 < 8 := by omega
    have hset2 : x.written = false → u.pages.set (kx mode a) { x with written := false } = u.pages := by
      intro hwr
      have : ({ x with written := false } : Page) = x := by cases x; simp at hwr; simp [hwr]
      rw [this]; exact hset
    have hset3 : x.written = true → u.pages.set (kx mode a) { x with written := true } = u.pages := by
      intro hwr
      have : ({ x with written := true } : Page) = x := by cases x; simp at hwr; simp [hwr]
      rw [this]; exact hset
    have hu : ({ on := true, pages := u.pages, status := u.status, addr := u.addr } : Mmu) = u := by cases u; simp at hon; simp [hon]
    simp only [Bool.not_true, Bool.false_eq_true, if_false, faultOf]
    have c1 : ¬ (8192 : Int) = 0 := by omega
    by_cases z1 : x.access = 0
    · simp [z1, h2, h3, q0, q1]
    · by_cases z2 : x.length ≤ a % 8192 / 64
      · simp [z1, z2, h2, h3, q0, q1]
      · cases w
        · cases hwr : x.written
          · simp [hg, z1, z2, h2, h3, q0, q1, hw3, hw4, hm, List.getElem?_set_self hlt, hwr, hset2, hu]
          · simp [hg, z1, z2, h2, h3, q0, q1, hw3, hw4, hm, List.getElem?_set_self hlt, hwr, hset3, hu]
        · by_cases z3 : x.access = 2
          · cases hwr : x.written
            · simp [hg, z1, z2, z3, h2, h3, q0, q1, hw3, hw4, hm, List.getElem?_set_self hlt, hwr]
            · simp [hg, z1, z2, z3, h2, h3, q0, q1, hw3, hw4, hm, List.getElem?_set_self hlt, hwr, hset3, hu]
          · simp [z1, z2, z3, h2, h3, q0, q1]
end Go.Proofs.Ytocjgcccbfmoeaa
