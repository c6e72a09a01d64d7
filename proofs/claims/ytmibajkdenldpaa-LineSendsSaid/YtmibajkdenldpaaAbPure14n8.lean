/- The law LineSends holds of the typed functions. -/
import Derived.Test.YtmibajkdenldpaaAbPure14n7
set_option linter.unusedSimpArgs false
namespace Go.Proofs.Ytmibajkdenldpaa
open Go Go.Ab
/-- a line that sends: so many ticks are left -/
def Busy (l : Line) (b k : Int) (x : Line) : Prop := Rt x ∧ x.out = l.out ∧ x.txReady = false ∧ x.txLeft = k ∧ x.txData = b % 256
def sentOf (l : Line) (b : Int) : List UInt8 := (l.out ++ [UInt8.ofNat (b % 256).toNat]).drop (l.out.length + 1 - 4096)
def Done (l : Line) (b : Int) (x : Line) : Prop := x.out = sentOf l b ∧ x.txReady = true
theorem next_busy {l x : Line} {b k : Int} {d : Deed} (h : Busy l b k x) (h3 : d.kind ≠ 3) (h4 : d.kind ≠ 4) : ∃ y, law14_next x d = some y ∧ Busy l b k y := by
  obtain ⟨hr, ho, ht, hk, hd⟩ := h
  obtain ⟨y, n1, n2, _, n4⟩ := next_right x d hr
  refine ⟨y, n1, n2, (n4 h3).trans ho, ?_⟩
  obtain ⟨v, r1, r2, _⟩ := Read_def x d.reg
  simp only [law14_next, Tlaw14_next, Tree.run, r2, r1, Type_eq, Type_some, Write_def, Reset_def, Accept_def, Option.bind_some, decide_eq_true_eq, if_neg h3, if_neg h4] at n1
  by_cases k0 : d.kind = 0
  · rw [if_pos k0] at n1; injection n1 with n1; subst n1; exact ⟨ht, hk, hd⟩
  rw [if_neg k0] at n1
  by_cases k1 : d.kind = 1
  · rw [if_pos k1] at n1; injection n1 with n1; subst n1
    split <;> exact ⟨ht, hk, hd⟩
  rw [if_neg k1] at n1
  by_cases k2 : d.kind = 2
  · rw [if_pos k2] at n1; injection n1 with n1; subst n1
    split
    · exact ⟨ht, hk, hd⟩
    · split
      · exact ⟨ht, hk, hd⟩
      · split
        · rename_i h6; rw [ht] at h6; exact absurd h6.2 (by simp)
        · exact ⟨ht, hk, hd⟩
  rw [if_neg k2] at n1
  by_cases k5 : d.kind = 5
  · rw [if_pos k5] at n1; injection n1 with n1; subst n1; exact ⟨ht, hk, hd⟩
  · rw [if_neg k5] at n1; injection n1 with n1; subst n1; exact ⟨ht, hk, hd⟩
theorem tick_busy {l x : Line} {b k : Int} (h : Busy l b k x) (hk : 1 ≤ k) : ∃ y, line_Tick x = some y ∧ (k ≠ 1 → Busy l b (k - 1) y) ∧ (k = 1 → Done l b y) := by
  obtain ⟨hr, ho, ht, hk', hd⟩ := h
  refine ⟨_, Tick_def x hr, fun hne => ?_, fun he => ?_⟩
  · have hrt := (ticked_right x hr).1
    unfold ticked at hrt ⊢
    rw [if_neg (by omega), if_neg (by omega)] at hrt ⊢
    exact ⟨hrt, ho, ht, by show x.txLeft - 1 = k - 1; omega, hd⟩
  · unfold ticked
    rw [if_neg (by omega), if_pos (by omega)]
    have e : b % 256 % 256 = b % 256 := by omega
    have hs : sent x = sentOf l b := by simp only [sent, sentOf, ho, hd, e, List.length_append, List.length_cons, List.length_nil]
    generalize sent x = o at hs
    exact And.intro hs (Eq.refl true)
theorem sends_loop (l : Line) (b : Int) (ds : List Deed) (x : Line) (hl : ds.length ≤ maxLen) (h : Busy l b 4 x) : ∃ y, Llaw14_LineSends_0 none ⟨b, ds, 0, l, x⟩ = some (.inr (b, l, y)) ∧ Done l b y := by
  obtain ⟨e, he, y, rfl, hy⟩ := lim_rule (f := fun s => (Wlaw14_LineSends_0 s).run) (fun s => s.t1 = b ∧ s.t2 = ds ∧ s.b0 = l ∧ 0 ≤ s.t8 ∧ s.t8 ≤ 4 ∧ (s.t8 < 4 → Busy l b (4 - s.t8) s.b1) ∧ (s.t8 = 4 → Done l b s.b1)) (fun e => ∃ y, e = .inr (b, l, y) ∧ Done l b y) (fun s => (4 - s.t8).toNat) (by
    rintro ⟨t1, t2, i, b0, x⟩ ⟨rfl, rfl, rfl, h0, h1, hb, hdn⟩
    have h0 : 0 ≤ i := h0
    have h1 : i ≤ 4 := h1
    have hb : i < 4 → Busy b0 t1 (4 - i) x := hb
    have hdn : i = 4 → Done b0 t1 x := hdn
    by_cases hi : i < 4
    · right
      have hw : IntKind.wrap .i64 (i + 1) = i + 1 := wrap_id (by omega) (by omega)
      -- the line that ticks
      have tick : ∀ z, Busy b0 t1 (4 - i) z → ∃ y, line_Tick z = some y ∧ z.out = b0.out ∧ z.txReady = false ∧ (fun s : Slaw14_LineSends_0 => s.t1 = t1 ∧ s.t2 = t2 ∧ s.b0 = b0 ∧ 0 ≤ s.t8 ∧ s.t8 ≤ 4 ∧ (s.t8 < 4 → Busy b0 t1 (4 - s.t8) s.b1) ∧ (s.t8 = 4 → Done b0 t1 s.b1)) ⟨t1, t2, i + 1, b0, y⟩ := by
        intro z hz
        obtain ⟨y, y1, y2, y3⟩ := tick_busy hz (by omega)
        refine ⟨y, y1, hz.2.1, hz.2.2.1, rfl, rfl, rfl, by show 0 ≤ i + 1; omega, by show i + 1 ≤ 4; omega, fun hlt => ?_, fun he => ?_⟩
        · have hlt : i + 1 < 4 := hlt
          have := y2 (by omega)
          rw [show 4 - i - 1 = 4 - (i + 1) by omega] at this
          exact this
        · have he : i + 1 = 4 := he
          exact y3 (by omega)
      have hm : (4 - (i + 1)).toNat < (4 - i).toNat := by omega
      by_cases hlen : i < (t2.length : Int)
      · have hlt : i.toNat < t2.length := by omega
        by_cases h3 : t2[i.toNat].kind = 3
        · obtain ⟨y, y1, y2, y3, y4⟩ := tick x (hb hi)
          exact ⟨_, by simp [Wlaw14_LineSends_0, Tree.run, hi, hlen, h0, List.getElem?_eq_getElem hlt, h3, y1, y2, y3, hw], y4, hm⟩
        · by_cases h4 : t2[i.toNat].kind = 4
          · obtain ⟨y, y1, y2, y3, y4⟩ := tick x (hb hi)
            exact ⟨_, by simp [Wlaw14_LineSends_0, Tree.run, hi, hlen, h0, List.getElem?_eq_getElem hlt, h4, y1, y2, y3, hw], y4, hm⟩
          · obtain ⟨z, z1, z2⟩ := next_busy (hb hi) h3 h4
            obtain ⟨y, y1, y2, y3, y4⟩ := tick z z2
            exact ⟨_, by simp [Wlaw14_LineSends_0, Tree.run, hi, hlen, h0, List.getElem?_eq_getElem hlt, h3, h4, z1, y1, y2, y3, hw], y4, hm⟩
      · obtain ⟨y, y1, y2, y3, y4⟩ := tick x (hb hi)
        exact ⟨_, by simp [Wlaw14_LineSends_0, Tree.run, hi, hlen, y1, y2, y3, hw], y4, hm⟩
    · left
      exact ⟨_, by simp [Wlaw14_LineSends_0, Tree.run, hi], x, rfl, hdn (by omega)⟩) ⟨b, ds, 0, l, x⟩ ⟨rfl, rfl, rfl, by show (0 : Int) ≤ 0; omega, by show (0 : Int) ≤ 4; omega, fun _ => by exact h, fun he => by have he : (0 : Int) = 4 := he; omega⟩
  exact ⟨y, he, hy⟩
theorem Write6 (l : Line) (b : Int) (ht : l.txReady = true) : line_Write l 6 b = some { l with txData := b % 256, txLeft := 4, txReady := false } := by
  rw [Write_def, if_neg (by omega), if_neg (by omega), if_pos ⟨rfl, ht⟩]
theorem pf_law14_LineSends (x : Line × Int × List Deed × Unit) (hg : Glaw14_LineSends x) : law14_LineSends none x.1 x.2.1 x.2.2.1 = some true := by
  obtain ⟨l, b, ds, u⟩ := x
  have hds : ds.length ≤ maxLen := hg.2.2.1.1
  simp only [law14_LineSends, Tlaw14_LineSends, Tree.run, ref14_Right_def, Option.bind_some, alive_true, and255]
  by_cases hr : Rt l
  · by_cases ht : l.txReady = true
    · have hb : Busy l b 4 { l with txData := b % 256, txLeft := 4, txReady := false } := by
        have h1 : 0 ≤ b % 256 := Int.emod_nonneg _ (by omega)
        have h2 : b % 256 < 256 := Int.emod_lt_of_pos _ (by omega)
        refine ⟨⟨hr.1, ?_, ?_, ?_, hr.2.2.2.2⟩, rfl, rfl, rfl, rfl⟩
        · show 0 ≤ b % 256 ∧ b % 256 ≤ 255; omega
        · show (0 : Int) ≤ 4 ∧ (4 : Int) ≤ 4; omega
        · show false = true ↔ (4 : Int) = 0; simp
      obtain ⟨y, y1, y2, y3⟩ := sends_loop l b ds _ hds hb
      have hlen : l.out.length ≤ 4096 := hr.2.2.2.2
      have hol : y.out.length = l.out.length + 1 - (l.out.length + 1 - 4096) := by rw [y2]; simp [sentOf]
      have hpos : (0 : Int) < y.out.length := by omega
      have hw : IntKind.wrap .i64 ((y.out.length : Int) - 1) = (y.out.length : Int) - 1 := wrap_id (by omega) (by omega)
      have hb0 : 0 ≤ b % 256 := Int.emod_nonneg _ (by omega)
      have hb1 : b % 256 < 256 := Int.emod_lt_of_pos _ (by omega)
      have hlast : y.out[((y.out.length : Int) - 1).toNat]? = some (UInt8.ofNat (b % 256).toNat) := by
        rw [show ((y.out.length : Int) - 1).toNat = l.out.length - (l.out.length + 1 - 4096) by omega, y2, sentOf, List.getElem?_drop, show l.out.length + 1 - 4096 + (l.out.length - (l.out.length + 1 - 4096)) = l.out.length by omega]
        simp
      have hbyte : IntKind.wrap .i64 (((UInt8.ofNat (b % 256).toNat).toNat : Nat) : Int) = b % 256 := by
        rw [UInt8.toNat_ofNat', Nat.mod_eq_of_lt (by omega), wrap_id (by omega) (by omega)]
        omega
      rw [Write6 l b ht]
      simp only [Option.bind_some, y1]
      generalize UInt8.ofNat (b % 256).toNat = c at hlast hbyte
      have hn : ((y.out.length : Int) - 1).toNat = y.out.length - 1 := by omega
      have hp0 : 0 < y.out.length := by omega
      have hp1 : (1 : Int) ≤ y.out.length := by omega
      rw [hn] at hlast
      by_cases h4096 : (l.out.length : Int) = 4096
      · simp [hr, ht, y3, hpos, hw, hlast, hbyte, h4096, hp0, hp1]
      · have hdrop : List.take ((y.out.length : Int) - 1).toNat y.out = l.out := by
          rw [show ((y.out.length : Int) - 1).toNat = l.out.length by omega, y2, sentOf, show l.out.length + 1 - 4096 = 0 by omega, List.drop_zero]
          simp
        rw [hn] at hdrop
        simp [hr, ht, y3, hpos, hw, hlast, hbyte, h4096, hp0, hp1, hdrop]
        omega
    · simp [hr, ht]
  · simp [hr]
end Go.Proofs.Ytmibajkdenldpaa
