/-
  The simplest fraction between two others: contracts of the program's and of the reference's functions; the walk of the law FnExactSimplestBetween.
  No condition but those of the law's own text.
-/
import Derived.Test.YtbpaihbpaeoljaaProg
import Derived.Test.YtbpaihbpaeoljaaMem
import Derived.Test.YtbpaihbpaeoljaaBasic
import Derived.Test.YtbpaihbpaeoljaaFrac
import Derived.Test.YtbpaihbpaeoljaaVfrac
import Derived.Test.YtbpaihbpaeoljaaFrac2
import Derived.Test.YtbpaihbpaeoljaaFrac3
import Derived.Test.YtbpaihbpaeoljaaLaw2
import Derived.Test.YtbpaihbpaeoljaaFrac5
import Derived.Test.YtbpaihbpaeoljaaOwn
import Derived.Deep.DeepCutAuto
import Derived.Handy
import Derived.RegionTactic
import Derived.BigRegion
import Derived.BigQuiet
import Derived.Deep.QuietTactic
import Derived.Deep.RegionHeld3
import Derived.Deep.DrawnRows
namespace Go.Proofs.Ytbpaihbpaeoljaa
open Go.RowKit
set_option linter.unusedVariables false
attribute [local go_sem ↓] Go.wp_at_zero Go.wp_at_succ

/-- The simplest fraction between a / b and c / d, by so much fuel. -/
def simpN : Nat → Int → Int → Int → Int → Int × Int
  | 0, _, _, _, _ => (1, 1)
  | f + 1, a, b, c, d => if d = 0 ∨ (a / b + 1) * d < c then (a / b + 1, 1) else (a / b * (simpN f d (c - a / b * d) b (a - a / b * b)).1 + (simpN f d (c - a / b * d) b (a - a / b * b)).2, (simpN f d (c - a / b * d) b (a - a / b * b)).1)
/-- The arguments are two fractions in order. -/
def SmpIn (a b c d : Int) : Prop := 0 ≤ a ∧ a ≤ 1000000000 ∧ 1 ≤ b ∧ b ≤ 1000000000 ∧ 1 ≤ c ∧ c ≤ 1000000000 ∧ 0 ≤ d ∧ d ≤ 1000000000 ∧ a * d < c * b
theorem SmpIn.whole {a b c d : Int} (h : SmpIn a b c d) : 0 ≤ a / b ∧ a / b ≤ 1000000000 ∧ 0 ≤ a - a / b * b ∧ a - a / b * b < b ∧ 0 ≤ a / b * b ∧ a / b * b ≤ 1000000000 := by
  obtain ⟨h1, h2, h3, h4, h5, h6, h7, h8, h9⟩ := h
  have q0 : 0 ≤ a / b := Int.ediv_nonneg h1 (by omega)
  have q1 : a / b ≤ a := Int.ediv_le_self b h1
  have r0 : 0 ≤ a % b := Int.emod_nonneg a (by omega)
  have r1 : a % b < b := Int.emod_lt_of_pos a (by omega)
  have e := Int.mul_ediv_add_emod a b
  rw [Int.mul_comm] at e
  have := Int.mul_nonneg q0 (show 0 ≤ b by omega)
  omega
theorem SmpIn.step {a b c d : Int} (h : SmpIn a b c d) (hd : ¬ (d = 0 ∨ (a / b + 1) * d < c)) : SmpIn d (c - a / b * d) b (a - a / b * b) ∧ c - a / b * d ≤ d ∧ 0 ≤ a / b * d ∧ a / b * d ≤ 1000000000 := by
  obtain ⟨w0, w1, w2, w3, w4, w5⟩ := h.whole
  obtain ⟨h1, h2, h3, h4, h5, h6, h7, h8, h9⟩ := h
  generalize a / b = n at *
  have d1 : 1 ≤ d := by omega
  have e1 : c ≤ (n + 1) * d := by omega
  rw [Int.add_mul] at e1
  have e2 : n * d < c := by
    have k : n * b * d ≤ a * d := Int.mul_le_mul_of_nonneg_right (by omega) (by omega)
    have k2 : (n * d) * b < c * b := by
      have : n * d * b = n * b * d := by rw [Int.mul_assoc, Int.mul_comm d b, Int.mul_assoc]
      omega
    exact Int.lt_of_mul_lt_mul_right k2 (by omega)
  have e3 : 0 ≤ n * d := Int.mul_nonneg w0 h7
  refine ⟨⟨h7, h8, by omega, by omega, h3, h4, w2, by omega, ?_⟩, by omega, e3, by omega⟩
  rw [Int.mul_sub, Int.mul_sub, Int.mul_comm d a, Int.mul_comm b c]
  have : d * (n * b) = b * (n * d) := by rw [Int.mul_comm, Int.mul_comm n b, Int.mul_assoc]
  omega
theorem simp_props (f : Nat) : ∀ a b c d : Int, SmpIn a b c d → b + d ≤ f → 1 ≤ (simpN f a b c d).1 ∧ (simpN f a b c d).1 ≤ a + c ∧ 1 ≤ (simpN f a b c d).2 ∧ (simpN f a b c d).2 ≤ b + d ∧ Int.gcd (simpN f a b c d).1 (simpN f a b c d).2 = 1 := by
  induction f with
  | zero =>
    intro a b c d h hf
    obtain ⟨h1, h2, h3, h4, h5, h6, h7, h8, h9⟩ := h
    omega
  | succ f ih =>
    intro a b c d h hf
    have hh := h
    obtain ⟨w0, w1, w2, w3, w4, w5⟩ := h.whole
    obtain ⟨h1, h2, h3, h4, h5, h6, h7, h8, h9⟩ := h
    have qa : a / b ≤ a := Int.ediv_le_self b h1
    rw [simpN]
    split
    · refine ⟨by simp only; omega, by simp only; omega, by simp, by simp only; omega, by simp⟩
    · rename_i hd
      obtain ⟨hs, hc, m0, m1⟩ := hh.step hd
      obtain ⟨i1, i2, i3, i4, i5⟩ := ih _ _ _ _ hs (by omega)
      generalize a / b = n at *
      generalize simpN f d (c - n * d) b (a - n * b) = r at *
      simp only
      have k0 : 0 ≤ n * r.1 := Int.mul_nonneg w0 (by omega)
      have k1 : n * r.1 ≤ n * (d + b) := Int.mul_le_mul_of_nonneg_left i2 w0
      rw [Int.mul_add] at k1
      refine ⟨by omega, by omega, i1, by omega, ?_⟩
      rw [Int.add_comm, Int.gcd_comm, Int.mul_comm, Int.gcd_add_mul_left_right]
      exact i5
theorem simpN_base {f : Nat} {a b c d : Int} (h : d = 0 ∨ (a / b + 1) * d < c) : simpN (f + 1) a b c d = (a / b + 1, 1) := by rw [simpN, if_pos h]
theorem simpN_rec {f : Nat} {a b c d : Int} (h : ¬ (d = 0 ∨ (a / b + 1) * d < c)) : simpN (f + 1) a b c d = (a / b * (simpN f d (c - a / b * d) b (a - a / b * b)).1 + (simpN f d (c - a / b * d) b (a - a / b * b)).2, (simpN f d (c - a / b * d) b (a - a / b * b)).1) := by rw [simpN, if_neg h]

set_option maxHeartbeats 3200000 in
theorem simplest_any (f : Nat) : ∀ (a b c d : Int) (w : World), SmpIn a b c d → b + d ≤ f →
    Calls Try.prog 75 #[.int .i64 a, .int .i64 b, .int .i64 c, .int .i64 d] w fun e w' => e = .returned (.tuple #[.int .i64 (simpN f a b c d).1, .int .i64 (simpN f a b c d).2]) ∧ w = w' := by
  induction f with
  | zero =>
    intro a b c d w h hf
    obtain ⟨h1, h2, h3, h4, h5, h6, h7, h8, h9⟩ := h
    omega
  | succ f ih =>
    intro a b c d w h hf
    have hh := h
    obtain ⟨w0, w1, w2, w3, w4, w5⟩ := h.whole
    obtain ⟨h1, h2, h3, h4, h5, h6, h7, h8, h9⟩ := h
    obtain ⟨m1, m2⟩ := mul_bd (x := a / b) (y := d) (by omega) w1 (by omega) h8
    have hF := fun w => floorDiv_any a b w (by omega) (by omega) h3 (by omega)
    by_cases hd : d = 0 ∨ (a / b + 1) * d < c
    · rw [simpN_base hd]
      generalize a / b = n at *
      have HF := Lib.hid hF
      have m3 : (n + 1) * d = n * d + d := by rw [Int.add_mul, Int.one_mul]
      have m4 : -9223372036854775807 ≤ (n + 1) * d := by omega
      have m5 : (n + 1) * d ≤ 9223372036854775807 := by omega
      clear hF ih hh h9 m3
      by_cases hd0 : d = 0
      · have e0 : (d == 0) = true := by rw [beq_iff_eq]; exact hd0
        have e1 : d ≤ 0 := by omega
        clear hd hd0
        go_enter Try.func75, Try.ntmps75
        go_wp2_with fail
        refine (HF.out _).mono ?_
        rintro e w' ⟨rfl, rfl⟩
        go_wp2_with fail
        go_ret2
        exact ⟨rfl, rfl⟩
      · have e0 : (d == 0) = false := by rw [beq_eq_false_iff_ne]; exact hd0
        have e1 : 1 ≤ d := by omega
        have e2 : (n + 1) * d < c := by rcases hd with h | h; exact absurd h hd0; exact h
        have e3 : decide ((n + 1) * d < c) = true := decide_eq_true e2
        clear hd hd0
        go_enter Try.func75, Try.ntmps75
        go_wp2_with fail
        refine (HF.out _).mono ?_
        rintro e w' ⟨rfl, rfl⟩
        go_wp2_with fail
        go_ret2
        exact ⟨rfl, rfl⟩
    · obtain ⟨hs, hc, k0, k1⟩ := hh.step hd
      have hp := simp_props f _ _ _ _ hs (by omega)
      have hC := fun w => ih _ _ _ _ w hs (by omega)
      rw [simpN_rec hd]
      generalize a / b = n at *
      generalize simpN f d (c - n * d) b (a - n * b) = r at *
      obtain ⟨x, y⟩ := r
      simp only at hp hC ⊢
      obtain ⟨x1, x2, y1, y2, _⟩ := hp
      have HF := Lib.hid hF
      have HC := Lib.hid hC
      have m3 : (n + 1) * d = n * d + d := by rw [Int.add_mul, Int.one_mul]
      have m4 : -9223372036854775807 ≤ (n + 1) * d := by omega
      have m5 : (n + 1) * d ≤ 9223372036854775807 := by omega
      have e0 : (d == 0) = false := by rw [beq_eq_false_iff_ne]; intro h; exact hd (.inl h)
      have e1 : 1 ≤ d := by omega
      have e2 : c ≤ (n + 1) * d := by omega
      have e3 : decide ((n + 1) * d < c) = false := decide_eq_false (by omega)
      have g1 : 0 ≤ n * x := Int.mul_nonneg w0 (by omega)
      have g2 : n * x ≤ 2000000000000000000 := by
        have a1 : n * x ≤ 1000000000 * x := Int.mul_le_mul_of_nonneg_right w1 (by omega)
        omega
      clear hF hC ih hh h9 m3 hs hd
      go_enter Try.func75, Try.ntmps75
      go_wp2_with fail
      refine (HF.out _).mono ?_
      rintro e w' ⟨rfl, rfl⟩
      go_wp2_with fail
      refine (HC.out _).mono ?_
      rintro e w' ⟨rfl, rfl⟩
      go_wp2_with fail
      go_ret2
      exact ⟨rfl, rfl⟩
set_option maxHeartbeats 3200000 in
theorem l05Simple_any (f : Nat) : ∀ (a b c d : Int) (w : World), SmpIn a b c d → b + d ≤ f →
    Calls Try.prog 72 #[.int .i64 a, .int .i64 b, .int .i64 c, .int .i64 d] w fun e w' => e = .returned (.agg #[.int .i64 (simpN f a b c d).1, .int .i64 (simpN f a b c d).2]) ∧ Below w.heap.size w w' := by
  induction f with
  | zero =>
    intro a b c d w h hf
    obtain ⟨h1, h2, h3, h4, h5, h6, h7, h8, h9⟩ := h
    omega
  | succ f ih =>
    intro a b c d w h hf
    have hh := h
    obtain ⟨w0, w1, w2, w3, w4, w5⟩ := h.whole
    obtain ⟨h1, h2, h3, h4, h5, h6, h7, h8, h9⟩ := h
    obtain ⟨m1, m2⟩ := mul_bd (x := a / b) (y := d) (by omega) w1 (by omega) h8
    have hF := fun w => l02Floor_any a b w (by omega) (by omega) h3 (by omega)
    by_cases hd : d = 0 ∨ (a / b + 1) * d < c
    · rw [simpN_base hd]
      generalize a / b = n at *
      have HF := Lib.hid hF
      have m3 : (n + 1) * d = n * d + d := by rw [Int.add_mul, Int.one_mul]
      have m4 : -9223372036854775807 ≤ (n + 1) * d := by omega
      have m5 : (n + 1) * d ≤ 9223372036854775807 := by omega
      clear hF ih hh h9 m3
      by_cases hd0 : d = 0
      · have e0 : (d == 0) = true := by rw [beq_iff_eq]; exact hd0
        have e1 : d ≤ 0 := by omega
        clear hd hd0
        go_enter Try.func72, Try.ntmps72
        go_wp2_with fail
        refine (HF.out _).mono ?_
        rintro e w' ⟨rfl, rfl⟩
        go_wp2_with fail
        go_returns
        exact ⟨rfl, by go_grown⟩
      · have e0 : (d == 0) = false := by rw [beq_eq_false_iff_ne]; exact hd0
        have e1 : 1 ≤ d := by omega
        have e2 : (n + 1) * d < c := by rcases hd with h | h; exact absurd h hd0; exact h
        have e3 : decide ((n + 1) * d < c) = true := decide_eq_true e2
        clear hd hd0
        go_enter Try.func72, Try.ntmps72
        go_wp2_with fail
        refine (HF.out _).mono ?_
        rintro e w' ⟨rfl, rfl⟩
        go_wp2_with fail
        go_returns
        exact ⟨rfl, by go_grown⟩
    · obtain ⟨hs, hc, k0, k1⟩ := hh.step hd
      have hp := simp_props f _ _ _ _ hs (by omega)
      have hC := fun w => ih _ _ _ _ w hs (by omega)
      rw [simpN_rec hd]
      generalize a / b = n at *
      generalize simpN f d (c - n * d) b (a - n * b) = r at *
      obtain ⟨x, y⟩ := r
      simp only at hp hC ⊢
      obtain ⟨x1, x2, y1, y2, _⟩ := hp
      have HF := Lib.hid hF
      have HC := Lib.hid hC
      have m3 : (n + 1) * d = n * d + d := by rw [Int.add_mul, Int.one_mul]
      have m4 : -9223372036854775807 ≤ (n + 1) * d := by omega
      have m5 : (n + 1) * d ≤ 9223372036854775807 := by omega
      have e0 : (d == 0) = false := by rw [beq_eq_false_iff_ne]; intro h; exact hd (.inl h)
      have e1 : 1 ≤ d := by omega
      have e2 : c ≤ (n + 1) * d := by omega
      have e3 : decide ((n + 1) * d < c) = false := decide_eq_false (by omega)
      have g1 : 0 ≤ n * x := Int.mul_nonneg w0 (by omega)
      have g2 : n * x ≤ 2000000000000000000 := by
        have a1 : n * x ≤ 1000000000 * x := Int.mul_le_mul_of_nonneg_right w1 (by omega)
        omega
      clear hF hC ih hh h9 m3 hs hd
      go_enter Try.func72, Try.ntmps72
      go_wp2_with fail
      refine (HF.out _).mono ?_
      rintro e w' ⟨rfl, rfl⟩
      go_wp2_with fail
      refine (HC.out _).mono ?_
      rintro e w1 ⟨rfl, hb1⟩
      obtain ⟨hc1, hf1, hs1⟩ := keepc hb1
      have hB : Below w.heap.size w w1 := ((Below.refl _ _).alloc (Nat.le_refl _) _).trans (hb1.mono (by simp))
      have hl1 : w.heap.size < w1.heap.size := by simp at hs1; omega
      have z0 : w1.cell? ⟨w.heap.size, 0, none⟩ = some (.int .i64 0) := by rw [hc1 _ _ (by simp)]; simp [go_sem]
      have z1 : w1.cell? ⟨w.heap.size, 1, none⟩ = some (.int .i64 0) := by rw [hc1 _ _ (by simp)]; simp [go_sem]
      clear hb1
      go_wp2_with fail
      refine bodyPost_ret (v := .agg #[.int .i64 (n * x + y), .int .i64 x]) (by simp [results, Try.results72, go_sem, hl1, pair_set z0 z1]) rfl ⟨rfl, ?_⟩
      exact ((hB.setCell (p := ⟨w.heap.size, 0, none⟩) (Nat.le_refl _) _).setCell (p := ⟨w.heap.size, 1, none⟩) (Nat.le_refl _) _).alloc (by simp; omega) _
theorem plR_oneS {num den : Int} (h : Int.gcd num den = 1) (hd : 0 < den) : plR num den = if vfB num den = true then (num, den, 0) else (0, 0, 5) := by
  have hg : plG num den = 1 := by unfold plG; rw [if_neg (by omega), h]; rfl
  rw [plR_eq hg, Int.tdiv_one, Int.tdiv_one]

/-- The simplest fraction between two others, and a code. -/
def smbP (p q r s : Int) : Int × Int := simpN (q + s).toNat p q r s
def smbR (p q r s : Int) : Int × Int × Int :=
  if vfB p q = true ∧ vfB r s = true then (if p < 0 ∨ r < 0 then (0, 0, 2) else if p * s < r * q then (if vfB (smbP p q r s).1 (smbP p q r s).2 = true then ((smbP p q r s).1, (smbP p q r s).2, 0) else (0, 0, 5)) else (0, 0, 6)) else (0, 0, 1)
theorem l02Less_any (p q r s : Int) (w : World) (h1 : vfB p q = true) (h2 : vfB r s = true) : Calls Try.prog 71 #[.agg #[.int .i64 p, .int .i64 q], .agg #[.int .i64 r, .int .i64 s]] w fun e w' => e = .returned (.bool (decide (p * s < r * q))) ∧ Below w.heap.size w w' := by
  have HS := Lib.hid (fun w => l02Sign_any p q r s w h1 h2)
  by_cases h : p * s < r * q
  · rw [show cmpI (p * s) (r * q) = -1 from if_pos h] at HS
    rw [decide_eq_true h]
    clear h
    go_enter Try.func71, Try.ntmps71
    go_wp2_with fail
    refine (HS.out _).mono ?_
    rintro e w1 ⟨rfl, hb1⟩
    obtain ⟨hc1, hf1, hs1⟩ := keepc hb1
    have hB1 : Below w.heap.size w w1 := Below.trans (by go_grown) (hb1.mono (by first | exact Nat.le_refl _ | (simp only [World.size_alloc]; omega)))
    try simp only [World.size_alloc] at hs1
    have hl1_0 : w.heap.size < w1.heap.size := by omega
    have hl1_1 : w.heap.size + 1 < w1.heap.size := by omega
    go_wp2_with fail
    go_ret
    exact ⟨rfl, hB1⟩
  · have hk : 0 ≤ cmpI (p * s) (r * q) := by unfold cmpI; rw [if_neg h]; split <;> omega
    rw [decide_eq_false h]
    generalize cmpI (p * s) (r * q) = k at *
    have hk2 : decide (k < 0) = false := decide_eq_false (by omega)
    clear h
    go_enter Try.func71, Try.ntmps71
    go_wp2_with fail
    refine (HS.out _).mono ?_
    rintro e w1 ⟨rfl, hb1⟩
    obtain ⟨hc1, hf1, hs1⟩ := keepc hb1
    have hB1 : Below w.heap.size w w1 := Below.trans (by go_grown) (hb1.mono (by first | exact Nat.le_refl _ | (simp only [World.size_alloc]; omega)))
    try simp only [World.size_alloc] at hs1
    have hl1_0 : w.heap.size < w1.heap.size := by omega
    have hl1_1 : w.heap.size + 1 < w1.heap.size := by omega
    go_wp2_with fail
    go_ret
    exact ⟨rfl, hB1⟩
theorem smp_in {p q r s : Int} (h1 : vfB p q = true) (h2 : vfB r s = true) (h3 : ¬ (p < 0 ∨ r < 0)) (h4 : p * s < r * q) : SmpIn p q r s := by
  obtain ⟨a1, a2, a3, a4, _⟩ := vfB_iff.1 h1
  obtain ⟨b1, b2, b3, b4, _⟩ := vfB_iff.1 h2
  refine ⟨by omega, a4, a1, a2, ?_, b4, by omega, b2, h4⟩
  rcases Int.lt_or_le 0 r with h | h
  · omega
  · exfalso
    have hr : r = 0 := by omega
    rw [hr, Int.zero_mul] at h4
    have := Int.mul_nonneg (show 0 ≤ p by omega) (show 0 ≤ s by omega)
    omega

set_option maxHeartbeats 3200000 in
theorem implSmb_any (p q r s : Int) (w : World) : Calls Try.prog 34 #[.agg #[.int .i64 p, .int .i64 q], .agg #[.int .i64 r, .int .i64 s]] w fun e w' =>
    e = .returned (.tuple #[.agg #[.int .i64 (smbR p q r s).1, .int .i64 (smbR p q r s).2.1], .int .i64 (smbR p q r s).2.2]) ∧ Below w.heap.size w w' := by
  cases h1 : vfB p q
  · rw [show smbR p q r s = (0, 0, 1) from if_neg (by simp [h1])]
    go_enter Try.func34, Try.ntmps34
    go_wp2_with fail
    refine (validFraction_any p q _).mono ?_
    rintro e w1 ⟨rfl, hb1⟩
    obtain ⟨hc1, hf1, hs1⟩ := keepc hb1
    have hB1 : Below w.heap.size w w1 := Below.trans (by go_grown) (hb1.mono (by first | exact Nat.le_refl _ | (simp only [World.size_alloc]; omega)))
    try simp only [World.size_alloc] at hs1
    have hl1_0 : w.heap.size < w1.heap.size := by omega
    have hl1_1 : w.heap.size + 1 < w1.heap.size := by omega
    have hl1_2 : w.heap.size + 2 < w1.heap.size := by omega
    have z0 : w1.cell? ⟨w.heap.size + 2, 0, none⟩ = some (.int .i64 0) := by rw [hc1 _ _ (by simp only [World.size_alloc]; omega)]; simp [go_sem]
    have z1 : w1.cell? ⟨w.heap.size + 2, 1, none⟩ = some (.int .i64 0) := by rw [hc1 _ _ (by simp only [World.size_alloc]; omega)]; simp [go_sem]
    go_wp2_with fail
    exact bodyPost_ret (v := .tuple #[.agg #[.int .i64 0, .int .i64 0], .int .i64 1]) (by simp [results, Try.results34, go_sem, pair_set z0 z1]) rfl ⟨rfl, (hB1.setCell (p := ⟨w.heap.size + 2, 0, none⟩) (by simp) _).setCell (p := ⟨w.heap.size + 2, 1, none⟩) (by simp) _⟩
  · cases h2 : vfB r s
    · rw [show smbR p q r s = (0, 0, 1) from if_neg (by simp [h2])]
      go_enter Try.func34, Try.ntmps34
      go_wp2_with fail
      refine (validFraction_any p q _).mono ?_
      rintro e w1 ⟨rfl, hb1⟩
      obtain ⟨hc1, hf1, hs1⟩ := keepc hb1
      have hB1 : Below w.heap.size w w1 := Below.trans (by go_grown) (hb1.mono (by first | exact Nat.le_refl _ | (simp only [World.size_alloc]; omega)))
      try simp only [World.size_alloc] at hs1
      have hl1_0 : w.heap.size < w1.heap.size := by omega
      have hl1_1 : w.heap.size + 1 < w1.heap.size := by omega
      have hl1_2 : w.heap.size + 2 < w1.heap.size := by omega
      go_wp2_with fail
      refine (validFraction_any r s _).mono ?_
      rintro e w2 ⟨rfl, hb2⟩
      obtain ⟨hc2, hf2, hs2⟩ := keepc hb2
      have hB2 : Below w.heap.size w w2 := hB1.trans (hb2.mono (by have := hB1.size; omega))
      have hl2_0 : w.heap.size < w2.heap.size := by omega
      have hl2_1 : w.heap.size + 1 < w2.heap.size := by omega
      have hl2_2 : w.heap.size + 2 < w2.heap.size := by omega
      have z0 : w2.cell? ⟨w.heap.size + 2, 0, none⟩ = some (.int .i64 0) := by rw [hc2 _ _ (by omega), hc1 _ _ (by simp only [World.size_alloc]; omega)]; simp [go_sem]
      have z1 : w2.cell? ⟨w.heap.size + 2, 1, none⟩ = some (.int .i64 0) := by rw [hc2 _ _ (by omega), hc1 _ _ (by simp only [World.size_alloc]; omega)]; simp [go_sem]
      go_wp2_with fail
      exact bodyPost_ret (v := .tuple #[.agg #[.int .i64 0, .int .i64 0], .int .i64 1]) (by simp [results, Try.results34, go_sem, pair_set z0 z1]) rfl ⟨rfl, (hB2.setCell (p := ⟨w.heap.size + 2, 0, none⟩) (by simp) _).setCell (p := ⟨w.heap.size + 2, 1, none⟩) (by simp) _⟩
    · have h12 : smbR p q r s = if p < 0 ∨ r < 0 then (0, 0, 2) else if p * s < r * q then (if vfB (smbP p q r s).1 (smbP p q r s).2 = true then ((smbP p q r s).1, (smbP p q r s).2, 0) else (0, 0, 5)) else (0, 0, 6) := if_pos ⟨h1, h2⟩
      rw [h12]
      clear h12
      by_cases hp : p < 0
      · rw [if_pos (.inl hp)]
        go_enter Try.func34, Try.ntmps34
        go_wp2_with fail
        refine (validFraction_any p q _).mono ?_
        rintro e w1 ⟨rfl, hb1⟩
        obtain ⟨hc1, hf1, hs1⟩ := keepc hb1
        have hB1 : Below w.heap.size w w1 := Below.trans (by go_grown) (hb1.mono (by first | exact Nat.le_refl _ | (simp only [World.size_alloc]; omega)))
        try simp only [World.size_alloc] at hs1
        have hl1_0 : w.heap.size < w1.heap.size := by omega
        have hl1_1 : w.heap.size + 1 < w1.heap.size := by omega
        have hl1_2 : w.heap.size + 2 < w1.heap.size := by omega
        go_wp2_with fail
        refine (validFraction_any r s _).mono ?_
        rintro e w2 ⟨rfl, hb2⟩
        obtain ⟨hc2, hf2, hs2⟩ := keepc hb2
        have hB2 : Below w.heap.size w w2 := hB1.trans (hb2.mono (by have := hB1.size; omega))
        have hl2_0 : w.heap.size < w2.heap.size := by omega
        have hl2_1 : w.heap.size + 1 < w2.heap.size := by omega
        have hl2_2 : w.heap.size + 2 < w2.heap.size := by omega
        have z0 : w2.cell? ⟨w.heap.size + 2, 0, none⟩ = some (.int .i64 0) := by rw [hc2 _ _ (by omega), hc1 _ _ (by simp only [World.size_alloc]; omega)]; simp [go_sem]
        have z1 : w2.cell? ⟨w.heap.size + 2, 1, none⟩ = some (.int .i64 0) := by rw [hc2 _ _ (by omega), hc1 _ _ (by simp only [World.size_alloc]; omega)]; simp [go_sem]
        go_wp2_with fail
        exact bodyPost_ret (v := .tuple #[.agg #[.int .i64 0, .int .i64 0], .int .i64 2]) (by simp [results, Try.results34, go_sem, pair_set z0 z1]) rfl ⟨rfl, (hB2.setCell (p := ⟨w.heap.size + 2, 0, none⟩) (by simp) _).setCell (p := ⟨w.heap.size + 2, 1, none⟩) (by simp) _⟩
      · by_cases hr : r < 0
        · rw [if_pos (.inr hr)]
          have hp' : decide (p < 0) = false := decide_eq_false hp
          have hp2 : 0 ≤ p := by omega
          clear hp
          go_enter Try.func34, Try.ntmps34
          go_wp2_with fail
          refine (validFraction_any p q _).mono ?_
          rintro e w1 ⟨rfl, hb1⟩
          obtain ⟨hc1, hf1, hs1⟩ := keepc hb1
          have hB1 : Below w.heap.size w w1 := Below.trans (by go_grown) (hb1.mono (by first | exact Nat.le_refl _ | (simp only [World.size_alloc]; omega)))
          try simp only [World.size_alloc] at hs1
          have hl1_0 : w.heap.size < w1.heap.size := by omega
          have hl1_1 : w.heap.size + 1 < w1.heap.size := by omega
          have hl1_2 : w.heap.size + 2 < w1.heap.size := by omega
          go_wp2_with fail
          refine (validFraction_any r s _).mono ?_
          rintro e w2 ⟨rfl, hb2⟩
          obtain ⟨hc2, hf2, hs2⟩ := keepc hb2
          have hB2 : Below w.heap.size w w2 := hB1.trans (hb2.mono (by have := hB1.size; omega))
          have hl2_0 : w.heap.size < w2.heap.size := by omega
          have hl2_1 : w.heap.size + 1 < w2.heap.size := by omega
          have hl2_2 : w.heap.size + 2 < w2.heap.size := by omega
          have z0 : w2.cell? ⟨w.heap.size + 2, 0, none⟩ = some (.int .i64 0) := by rw [hc2 _ _ (by omega), hc1 _ _ (by simp only [World.size_alloc]; omega)]; simp [go_sem]
          have z1 : w2.cell? ⟨w.heap.size + 2, 1, none⟩ = some (.int .i64 0) := by rw [hc2 _ _ (by omega), hc1 _ _ (by simp only [World.size_alloc]; omega)]; simp [go_sem]
          go_wp2_with fail
          exact bodyPost_ret (v := .tuple #[.agg #[.int .i64 0, .int .i64 0], .int .i64 2]) (by simp [results, Try.results34, go_sem, pair_set z0 z1]) rfl ⟨rfl, (hB2.setCell (p := ⟨w.heap.size + 2, 0, none⟩) (by simp) _).setCell (p := ⟨w.heap.size + 2, 1, none⟩) (by simp) _⟩
        · have hn : ¬ (p < 0 ∨ r < 0) := by omega
          rw [if_neg hn]
          have hp' : decide (p < 0) = false := decide_eq_false hp
          have hr' : decide (r < 0) = false := decide_eq_false hr
          have hp2 : 0 ≤ p := by omega
          have hr2 : 0 ≤ r := by omega
          have HCm := Lib.hid (fun w => compareF_any p q r s w h1 h2)
          by_cases hl : p * s < r * q
          · rw [if_pos hl]
            rw [show cmpI (p * s) (r * q) = -1 from if_pos hl] at HCm
            have hin := smp_in h1 h2 hn hl
            obtain ⟨v1, v2, v3, v4, _⟩ := vfB_iff.1 h1
            obtain ⟨u1, u2, u3, u4, _⟩ := vfB_iff.1 h2
            have hS := fun w => simplest_any (q + s).toNat p q r s w hin (by omega)
            obtain ⟨x1, x2, y1, y2, hg⟩ := simp_props (q + s).toNat p q r s hin (by omega)
            unfold smbP
            generalize simpN (q + s).toNat p q r s = X at *
            obtain ⟨x, y⟩ := X
            simp only at hS x1 x2 y1 y2 hg ⊢
            have hP := fun w => plainOf_any x y w (by omega) (by omega) (by omega) (by omega) (.inr (by omega))
            rw [plR_oneS hg (by omega)] at hP
            generalize (if vfB x y = true then (x, y, (0 : Int)) else (0, 0, 5)) = Z at *
            have HS := Lib.hid hS
            have HP := Lib.hid hP
            clear hS hP hin hl hn hp hr hg
            go_enter Try.func34, Try.ntmps34
            go_wp2_with fail
            refine (validFraction_any p q _).mono ?_
            rintro e w1 ⟨rfl, hb1⟩
            obtain ⟨hc1, hf1, hs1⟩ := keepc hb1
            have hB1 : Below w.heap.size w w1 := Below.trans (by go_grown) (hb1.mono (by first | exact Nat.le_refl _ | (simp only [World.size_alloc]; omega)))
            try simp only [World.size_alloc] at hs1
            have hl1_0 : w.heap.size < w1.heap.size := by omega
            have hl1_1 : w.heap.size + 1 < w1.heap.size := by omega
            have hl1_2 : w.heap.size + 2 < w1.heap.size := by omega
            go_wp2_with fail
            refine (validFraction_any r s _).mono ?_
            rintro e w2 ⟨rfl, hb2⟩
            obtain ⟨hc2, hf2, hs2⟩ := keepc hb2
            have hB2 : Below w.heap.size w w2 := hB1.trans (hb2.mono (by have := hB1.size; omega))
            have hl2_0 : w.heap.size < w2.heap.size := by omega
            have hl2_1 : w.heap.size + 1 < w2.heap.size := by omega
            have hl2_2 : w.heap.size + 2 < w2.heap.size := by omega
            rw [h2]
            go_wp2_with fail
            refine (HCm.out _).mono ?_
            rintro e w3 ⟨rfl, hb3⟩
            obtain ⟨hc3, hf3, hs3⟩ := keepc hb3
            have hB3 : Below w.heap.size w w3 := hB2.trans (hb3.mono (by have := hB2.size; omega))
            have hl3_0 : w.heap.size < w3.heap.size := by omega
            have hl3_1 : w.heap.size + 1 < w3.heap.size := by omega
            have hl3_2 : w.heap.size + 2 < w3.heap.size := by omega
            go_wp2_with fail
            refine (HS.out _).mono ?_
            rintro e w' ⟨rfl, rfl⟩
            go_wp2_with fail
            refine (HP.out _).mono ?_
            rintro e w4 ⟨rfl, hb4⟩
            obtain ⟨hc4, hf4, hs4⟩ := keepc hb4
            have hB4 : Below w.heap.size w w4 := hB3.trans (hb4.mono (by have := hB3.size; omega))
            have hl4_0 : w.heap.size < w4.heap.size := by omega
            have hl4_1 : w.heap.size + 1 < w4.heap.size := by omega
            have hl4_2 : w.heap.size + 2 < w4.heap.size := by omega
            have z0 : w4.cell? ⟨w.heap.size + 2, 0, none⟩ = some (.int .i64 0) := by rw [hc4 _ _ (by omega), hc3 _ _ (by omega), hc2 _ _ (by omega), hc1 _ _ (by simp only [World.size_alloc]; omega)]; simp [go_sem]
            have z1 : w4.cell? ⟨w.heap.size + 2, 1, none⟩ = some (.int .i64 0) := by rw [hc4 _ _ (by omega), hc3 _ _ (by omega), hc2 _ _ (by omega), hc1 _ _ (by simp only [World.size_alloc]; omega)]; simp [go_sem]
            go_wp2_with fail
            exact bodyPost_ret (v := .tuple #[.agg #[.int .i64 Z.1, .int .i64 Z.2.1], .int .i64 Z.2.2]) (by simp [results, Try.results34, go_sem, pair_set z0 z1]) rfl ⟨rfl, (hB4.setCell (p := ⟨w.heap.size + 2, 0, none⟩) (by simp) _).setCell (p := ⟨w.heap.size + 2, 1, none⟩) (by simp) _⟩
          · rw [if_neg hl]
            have hk : 0 ≤ cmpI (p * s) (r * q) := by unfold cmpI; rw [if_neg hl]; split <;> omega
            generalize cmpI (p * s) (r * q) = k at *
            clear hl hn hp hr
            go_enter Try.func34, Try.ntmps34
            go_wp2_with fail
            refine (validFraction_any p q _).mono ?_
            rintro e w1 ⟨rfl, hb1⟩
            obtain ⟨hc1, hf1, hs1⟩ := keepc hb1
            have hB1 : Below w.heap.size w w1 := Below.trans (by go_grown) (hb1.mono (by first | exact Nat.le_refl _ | (simp only [World.size_alloc]; omega)))
            try simp only [World.size_alloc] at hs1
            have hl1_0 : w.heap.size < w1.heap.size := by omega
            have hl1_1 : w.heap.size + 1 < w1.heap.size := by omega
            have hl1_2 : w.heap.size + 2 < w1.heap.size := by omega
            go_wp2_with fail
            refine (validFraction_any r s _).mono ?_
            rintro e w2 ⟨rfl, hb2⟩
            obtain ⟨hc2, hf2, hs2⟩ := keepc hb2
            have hB2 : Below w.heap.size w w2 := hB1.trans (hb2.mono (by have := hB1.size; omega))
            have hl2_0 : w.heap.size < w2.heap.size := by omega
            have hl2_1 : w.heap.size + 1 < w2.heap.size := by omega
            have hl2_2 : w.heap.size + 2 < w2.heap.size := by omega
            rw [h2]
            go_wp2_with fail
            refine (HCm.out _).mono ?_
            rintro e w3 ⟨rfl, hb3⟩
            obtain ⟨hc3, hf3, hs3⟩ := keepc hb3
            have hB3 : Below w.heap.size w w3 := hB2.trans (hb3.mono (by have := hB2.size; omega))
            have hl3_0 : w.heap.size < w3.heap.size := by omega
            have hl3_1 : w.heap.size + 1 < w3.heap.size := by omega
            have hl3_2 : w.heap.size + 2 < w3.heap.size := by omega
            have z0 : w3.cell? ⟨w.heap.size + 2, 0, none⟩ = some (.int .i64 0) := by rw [hc3 _ _ (by omega), hc2 _ _ (by omega), hc1 _ _ (by simp only [World.size_alloc]; omega)]; simp [go_sem]
            have z1 : w3.cell? ⟨w.heap.size + 2, 1, none⟩ = some (.int .i64 0) := by rw [hc3 _ _ (by omega), hc2 _ _ (by omega), hc1 _ _ (by simp only [World.size_alloc]; omega)]; simp [go_sem]
            go_wp2_with fail
            exact bodyPost_ret (v := .tuple #[.agg #[.int .i64 0, .int .i64 0], .int .i64 6]) (by simp [results, Try.results34, go_sem, pair_set z0 z1]) rfl ⟨rfl, (hB3.setCell (p := ⟨w.heap.size + 2, 0, none⟩) (by simp) _).setCell (p := ⟨w.heap.size + 2, 1, none⟩) (by simp) _⟩
set_option maxHeartbeats 3200000 in
theorem specSmb_any (p q r s : Int) (w : World) : Calls Try.prog 33 #[.agg #[.int .i64 p, .int .i64 q], .agg #[.int .i64 r, .int .i64 s]] w fun e w' =>
    e = .returned (.tuple #[.agg #[.int .i64 (smbR p q r s).1, .int .i64 (smbR p q r s).2.1], .int .i64 (smbR p q r s).2.2]) ∧ Below w.heap.size w w' := by
  cases h1 : vfB p q
  · rw [show smbR p q r s = (0, 0, 1) from if_neg (by simp [h1])]
    go_enter Try.func33, Try.ntmps33
    go_wp2_with fail
    refine (l02Ok_any p q _).mono ?_
    rintro e w1 ⟨rfl, hb1⟩
    obtain ⟨hc1, hf1, hs1⟩ := keepc hb1
    have hB1 : Below w.heap.size w w1 := Below.trans (by go_grown) (hb1.mono (by first | exact Nat.le_refl _ | (simp only [World.size_alloc]; omega)))
    try simp only [World.size_alloc] at hs1
    have hl1_0 : w.heap.size < w1.heap.size := by omega
    have hl1_1 : w.heap.size + 1 < w1.heap.size := by omega
    have hl1_2 : w.heap.size + 2 < w1.heap.size := by omega
    have z0 : w1.cell? ⟨w.heap.size + 2, 0, none⟩ = some (.int .i64 0) := by rw [hc1 _ _ (by simp only [World.size_alloc]; omega)]; simp [go_sem]
    have z1 : w1.cell? ⟨w.heap.size + 2, 1, none⟩ = some (.int .i64 0) := by rw [hc1 _ _ (by simp only [World.size_alloc]; omega)]; simp [go_sem]
    go_wp2_with fail
    exact bodyPost_ret (v := .tuple #[.agg #[.int .i64 0, .int .i64 0], .int .i64 1]) (by simp [results, Try.results33, go_sem, pair_set z0 z1]) rfl ⟨rfl, (hB1.setCell (p := ⟨w.heap.size + 2, 0, none⟩) (by simp) _).setCell (p := ⟨w.heap.size + 2, 1, none⟩) (by simp) _⟩
  · cases h2 : vfB r s
    · rw [show smbR p q r s = (0, 0, 1) from if_neg (by simp [h2])]
      go_enter Try.func33, Try.ntmps33
      go_wp2_with fail
      refine (l02Ok_any p q _).mono ?_
      rintro e w1 ⟨rfl, hb1⟩
      obtain ⟨hc1, hf1, hs1⟩ := keepc hb1
      have hB1 : Below w.heap.size w w1 := Below.trans (by go_grown) (hb1.mono (by first | exact Nat.le_refl _ | (simp only [World.size_alloc]; omega)))
      try simp only [World.size_alloc] at hs1
      have hl1_0 : w.heap.size < w1.heap.size := by omega
      have hl1_1 : w.heap.size + 1 < w1.heap.size := by omega
      have hl1_2 : w.heap.size + 2 < w1.heap.size := by omega
      go_wp2_with fail
      refine (l02Ok_any r s _).mono ?_
      rintro e w2 ⟨rfl, hb2⟩
      obtain ⟨hc2, hf2, hs2⟩ := keepc hb2
      have hB2 : Below w.heap.size w w2 := hB1.trans (hb2.mono (by have := hB1.size; omega))
      have hl2_0 : w.heap.size < w2.heap.size := by omega
      have hl2_1 : w.heap.size + 1 < w2.heap.size := by omega
      have hl2_2 : w.heap.size + 2 < w2.heap.size := by omega
      have z0 : w2.cell? ⟨w.heap.size + 2, 0, none⟩ = some (.int .i64 0) := by rw [hc2 _ _ (by omega), hc1 _ _ (by simp only [World.size_alloc]; omega)]; simp [go_sem]
      have z1 : w2.cell? ⟨w.heap.size + 2, 1, none⟩ = some (.int .i64 0) := by rw [hc2 _ _ (by omega), hc1 _ _ (by simp only [World.size_alloc]; omega)]; simp [go_sem]
      go_wp2_with fail
      exact bodyPost_ret (v := .tuple #[.agg #[.int .i64 0, .int .i64 0], .int .i64 1]) (by simp [results, Try.results33, go_sem, pair_set z0 z1]) rfl ⟨rfl, (hB2.setCell (p := ⟨w.heap.size + 2, 0, none⟩) (by simp) _).setCell (p := ⟨w.heap.size + 2, 1, none⟩) (by simp) _⟩
    · have h12 : smbR p q r s = if p < 0 ∨ r < 0 then (0, 0, 2) else if p * s < r * q then (if vfB (smbP p q r s).1 (smbP p q r s).2 = true then ((smbP p q r s).1, (smbP p q r s).2, 0) else (0, 0, 5)) else (0, 0, 6) := if_pos ⟨h1, h2⟩
      rw [h12]
      clear h12
      by_cases hp : p < 0
      · rw [if_pos (.inl hp)]
        go_enter Try.func33, Try.ntmps33
        go_wp2_with fail
        refine (l02Ok_any p q _).mono ?_
        rintro e w1 ⟨rfl, hb1⟩
        obtain ⟨hc1, hf1, hs1⟩ := keepc hb1
        have hB1 : Below w.heap.size w w1 := Below.trans (by go_grown) (hb1.mono (by first | exact Nat.le_refl _ | (simp only [World.size_alloc]; omega)))
        try simp only [World.size_alloc] at hs1
        have hl1_0 : w.heap.size < w1.heap.size := by omega
        have hl1_1 : w.heap.size + 1 < w1.heap.size := by omega
        have hl1_2 : w.heap.size + 2 < w1.heap.size := by omega
        go_wp2_with fail
        refine (l02Ok_any r s _).mono ?_
        rintro e w2 ⟨rfl, hb2⟩
        obtain ⟨hc2, hf2, hs2⟩ := keepc hb2
        have hB2 : Below w.heap.size w w2 := hB1.trans (hb2.mono (by have := hB1.size; omega))
        have hl2_0 : w.heap.size < w2.heap.size := by omega
        have hl2_1 : w.heap.size + 1 < w2.heap.size := by omega
        have hl2_2 : w.heap.size + 2 < w2.heap.size := by omega
        have z0 : w2.cell? ⟨w.heap.size + 2, 0, none⟩ = some (.int .i64 0) := by rw [hc2 _ _ (by omega), hc1 _ _ (by simp only [World.size_alloc]; omega)]; simp [go_sem]
        have z1 : w2.cell? ⟨w.heap.size + 2, 1, none⟩ = some (.int .i64 0) := by rw [hc2 _ _ (by omega), hc1 _ _ (by simp only [World.size_alloc]; omega)]; simp [go_sem]
        go_wp2_with fail
        exact bodyPost_ret (v := .tuple #[.agg #[.int .i64 0, .int .i64 0], .int .i64 2]) (by simp [results, Try.results33, go_sem, pair_set z0 z1]) rfl ⟨rfl, (hB2.setCell (p := ⟨w.heap.size + 2, 0, none⟩) (by simp) _).setCell (p := ⟨w.heap.size + 2, 1, none⟩) (by simp) _⟩
      · by_cases hr : r < 0
        · rw [if_pos (.inr hr)]
          have hp' : decide (p < 0) = false := decide_eq_false hp
          have hp2 : 0 ≤ p := by omega
          clear hp
          go_enter Try.func33, Try.ntmps33
          go_wp2_with fail
          refine (l02Ok_any p q _).mono ?_
          rintro e w1 ⟨rfl, hb1⟩
          obtain ⟨hc1, hf1, hs1⟩ := keepc hb1
          have hB1 : Below w.heap.size w w1 := Below.trans (by go_grown) (hb1.mono (by first | exact Nat.le_refl _ | (simp only [World.size_alloc]; omega)))
          try simp only [World.size_alloc] at hs1
          have hl1_0 : w.heap.size < w1.heap.size := by omega
          have hl1_1 : w.heap.size + 1 < w1.heap.size := by omega
          have hl1_2 : w.heap.size + 2 < w1.heap.size := by omega
          go_wp2_with fail
          refine (l02Ok_any r s _).mono ?_
          rintro e w2 ⟨rfl, hb2⟩
          obtain ⟨hc2, hf2, hs2⟩ := keepc hb2
          have hB2 : Below w.heap.size w w2 := hB1.trans (hb2.mono (by have := hB1.size; omega))
          have hl2_0 : w.heap.size < w2.heap.size := by omega
          have hl2_1 : w.heap.size + 1 < w2.heap.size := by omega
          have hl2_2 : w.heap.size + 2 < w2.heap.size := by omega
          have z0 : w2.cell? ⟨w.heap.size + 2, 0, none⟩ = some (.int .i64 0) := by rw [hc2 _ _ (by omega), hc1 _ _ (by simp only [World.size_alloc]; omega)]; simp [go_sem]
          have z1 : w2.cell? ⟨w.heap.size + 2, 1, none⟩ = some (.int .i64 0) := by rw [hc2 _ _ (by omega), hc1 _ _ (by simp only [World.size_alloc]; omega)]; simp [go_sem]
          go_wp2_with fail
          exact bodyPost_ret (v := .tuple #[.agg #[.int .i64 0, .int .i64 0], .int .i64 2]) (by simp [results, Try.results33, go_sem, pair_set z0 z1]) rfl ⟨rfl, (hB2.setCell (p := ⟨w.heap.size + 2, 0, none⟩) (by simp) _).setCell (p := ⟨w.heap.size + 2, 1, none⟩) (by simp) _⟩
        · have hn : ¬ (p < 0 ∨ r < 0) := by omega
          rw [if_neg hn]
          have hp' : decide (p < 0) = false := decide_eq_false hp
          have hr' : decide (r < 0) = false := decide_eq_false hr
          have hp2 : 0 ≤ p := by omega
          have hr2 : 0 ≤ r := by omega
          have HCm := Lib.hid (fun w => l02Less_any p q r s w h1 h2)
          by_cases hl : p * s < r * q
          · rw [if_pos hl]
            rw [decide_eq_true hl] at HCm
            have hin := smp_in h1 h2 hn hl
            obtain ⟨v1, v2, v3, v4, _⟩ := vfB_iff.1 h1
            obtain ⟨u1, u2, u3, u4, _⟩ := vfB_iff.1 h2
            have hS := fun w => l05Simple_any (q + s).toNat p q r s w hin (by omega)
            unfold smbP
            generalize simpN (q + s).toNat p q r s = X at *
            obtain ⟨x, y⟩ := X
            simp only at hS ⊢
            have HS := Lib.hid hS
            clear hS hin hl hn hp hr
            cases hv : vfB x y
            · rw [if_neg (by simp)]
              go_enter Try.func33, Try.ntmps33
              go_wp2_with fail
              refine (l02Ok_any p q _).mono ?_
              rintro e w1 ⟨rfl, hb1⟩
              obtain ⟨hc1, hf1, hs1⟩ := keepc hb1
              have hB1 : Below w.heap.size w w1 := Below.trans (by go_grown) (hb1.mono (by first | exact Nat.le_refl _ | (simp only [World.size_alloc]; omega)))
              try simp only [World.size_alloc] at hs1
              have hl1_0 : w.heap.size < w1.heap.size := by omega
              have hl1_1 : w.heap.size + 1 < w1.heap.size := by omega
              have hl1_2 : w.heap.size + 2 < w1.heap.size := by omega
              go_wp2_with fail
              refine (l02Ok_any r s _).mono ?_
              rintro e w2 ⟨rfl, hb2⟩
              obtain ⟨hc2, hf2, hs2⟩ := keepc hb2
              have hB2 : Below w.heap.size w w2 := hB1.trans (hb2.mono (by have := hB1.size; omega))
              have hl2_0 : w.heap.size < w2.heap.size := by omega
              have hl2_1 : w.heap.size + 1 < w2.heap.size := by omega
              have hl2_2 : w.heap.size + 2 < w2.heap.size := by omega
              rw [h2]
              go_wp2_with fail
              refine (HCm.out _).mono ?_
              rintro e w3 ⟨rfl, hb3⟩
              obtain ⟨hc3, hf3, hs3⟩ := keepc hb3
              have hB3 : Below w.heap.size w w3 := hB2.trans (hb3.mono (by have := hB2.size; omega))
              have hl3_0 : w.heap.size < w3.heap.size := by omega
              have hl3_1 : w.heap.size + 1 < w3.heap.size := by omega
              have hl3_2 : w.heap.size + 2 < w3.heap.size := by omega
              go_wp2_with fail
              refine (HS.out _).mono ?_
              rintro e w4 ⟨rfl, hb4⟩
              obtain ⟨hc4, hf4, hs4⟩ := keepc hb4
              have hB4 : Below w.heap.size w w4 := hB3.trans (hb4.mono (by have := hB3.size; omega))
              have hl4_0 : w.heap.size < w4.heap.size := by omega
              have hl4_1 : w.heap.size + 1 < w4.heap.size := by omega
              have hl4_2 : w.heap.size + 2 < w4.heap.size := by omega
              have z0 : w4.cell? ⟨w.heap.size + 2, 0, none⟩ = some (.int .i64 0) := by rw [hc4 _ _ (by omega), hc3 _ _ (by omega), hc2 _ _ (by omega), hc1 _ _ (by simp only [World.size_alloc]; omega)]; simp [go_sem]
              have z1 : w4.cell? ⟨w.heap.size + 2, 1, none⟩ = some (.int .i64 0) := by rw [hc4 _ _ (by omega), hc3 _ _ (by omega), hc2 _ _ (by omega), hc1 _ _ (by simp only [World.size_alloc]; omega)]; simp [go_sem]
              go_wp2_with fail
              refine (l02Ok_any x y _).mono ?_
              rintro e w5 ⟨rfl, hb5⟩
              have hB5 : Below w.heap.size w w5 := (hB4.alloc (by omega) _).trans (hb5.mono (by simp; omega))
              replace z0 := (hb5.cell (p := ⟨w.heap.size + 2, 0, none⟩) (by simp; omega)).trans ((World.cell?_alloc_lt _ _ _ (by simp; omega)).trans z0)
              replace z1 := (hb5.cell (p := ⟨w.heap.size + 2, 1, none⟩) (by simp; omega)).trans ((World.cell?_alloc_lt _ _ _ (by simp; omega)).trans z1)
              have f0 : w5.cell? ⟨w4.heap.size, 0, none⟩ = some (.int .i64 x) := (hb5.cell (p := ⟨w4.heap.size, 0, none⟩) (by simp)).trans (newcellA rfl rfl)
              have f1 : w5.cell? ⟨w4.heap.size, 1, none⟩ = some (.int .i64 y) := (hb5.cell (p := ⟨w4.heap.size, 1, none⟩) (by simp)).trans (newcellA rfl rfl)
              have hl4_2' : w.heap.size + 1 + 1 < w4.heap.size := by omega
              have e0 : w4.frozen? ⟨w.heap.size + 1 + 1, 0, none⟩ = false := (hf4 _ _ (by omega)).trans ((hf3 _ _ (by omega)).trans ((hf2 _ _ (by omega)).trans ((hf1 _ _ (by simp)).trans (by simp [go_sem]))))
              have e1 : w4.frozen? ⟨w.heap.size + 1 + 1, 1, none⟩ = false := (hf4 _ _ (by omega)).trans ((hf3 _ _ (by omega)).trans ((hf2 _ _ (by omega)).trans ((hf1 _ _ (by simp)).trans (by simp [go_sem]))))
              replace e0 := (hb5.frozen (p := ⟨w.heap.size + 1 + 1, 0, none⟩) (by simp; omega)).trans ((World.frozen?_of_block (Below.heap_alloc _ _ _ hl4_2')).trans e0)
              replace e1 := (hb5.frozen (p := ⟨w.heap.size + 1 + 1, 1, none⟩) (by simp; omega)).trans ((World.frozen?_of_block (Below.heap_alloc _ _ _ hl4_2')).trans e1)
              clear hb5
              rw [hv]
              go_wp2_with fail
              exact bodyPost_ret (v := .tuple #[.agg #[.int .i64 0, .int .i64 0], .int .i64 5]) (by simp [results, Try.results33, go_sem, pair_set z0 z1]) rfl ⟨rfl, (hB5.setCell (p := ⟨w.heap.size + 2, 0, none⟩) (by simp) _).setCell (p := ⟨w.heap.size + 2, 1, none⟩) (by simp) _⟩
            · rw [if_pos rfl]
              go_enter Try.func33, Try.ntmps33
              go_wp2_with fail
              refine (l02Ok_any p q _).mono ?_
              rintro e w1 ⟨rfl, hb1⟩
              obtain ⟨hc1, hf1, hs1⟩ := keepc hb1
              have hB1 : Below w.heap.size w w1 := Below.trans (by go_grown) (hb1.mono (by first | exact Nat.le_refl _ | (simp only [World.size_alloc]; omega)))
              try simp only [World.size_alloc] at hs1
              have hl1_0 : w.heap.size < w1.heap.size := by omega
              have hl1_1 : w.heap.size + 1 < w1.heap.size := by omega
              have hl1_2 : w.heap.size + 2 < w1.heap.size := by omega
              go_wp2_with fail
              refine (l02Ok_any r s _).mono ?_
              rintro e w2 ⟨rfl, hb2⟩
              obtain ⟨hc2, hf2, hs2⟩ := keepc hb2
              have hB2 : Below w.heap.size w w2 := hB1.trans (hb2.mono (by have := hB1.size; omega))
              have hl2_0 : w.heap.size < w2.heap.size := by omega
              have hl2_1 : w.heap.size + 1 < w2.heap.size := by omega
              have hl2_2 : w.heap.size + 2 < w2.heap.size := by omega
              rw [h2]
              go_wp2_with fail
              refine (HCm.out _).mono ?_
              rintro e w3 ⟨rfl, hb3⟩
              obtain ⟨hc3, hf3, hs3⟩ := keepc hb3
              have hB3 : Below w.heap.size w w3 := hB2.trans (hb3.mono (by have := hB2.size; omega))
              have hl3_0 : w.heap.size < w3.heap.size := by omega
              have hl3_1 : w.heap.size + 1 < w3.heap.size := by omega
              have hl3_2 : w.heap.size + 2 < w3.heap.size := by omega
              go_wp2_with fail
              refine (HS.out _).mono ?_
              rintro e w4 ⟨rfl, hb4⟩
              obtain ⟨hc4, hf4, hs4⟩ := keepc hb4
              have hB4 : Below w.heap.size w w4 := hB3.trans (hb4.mono (by have := hB3.size; omega))
              have hl4_0 : w.heap.size < w4.heap.size := by omega
              have hl4_1 : w.heap.size + 1 < w4.heap.size := by omega
              have hl4_2 : w.heap.size + 2 < w4.heap.size := by omega
              have z0 : w4.cell? ⟨w.heap.size + 2, 0, none⟩ = some (.int .i64 0) := by rw [hc4 _ _ (by omega), hc3 _ _ (by omega), hc2 _ _ (by omega), hc1 _ _ (by simp only [World.size_alloc]; omega)]; simp [go_sem]
              have z1 : w4.cell? ⟨w.heap.size + 2, 1, none⟩ = some (.int .i64 0) := by rw [hc4 _ _ (by omega), hc3 _ _ (by omega), hc2 _ _ (by omega), hc1 _ _ (by simp only [World.size_alloc]; omega)]; simp [go_sem]
              go_wp2_with fail
              refine (l02Ok_any x y _).mono ?_
              rintro e w5 ⟨rfl, hb5⟩
              have hB5 : Below w.heap.size w w5 := (hB4.alloc (by omega) _).trans (hb5.mono (by simp; omega))
              replace z0 := (hb5.cell (p := ⟨w.heap.size + 2, 0, none⟩) (by simp; omega)).trans ((World.cell?_alloc_lt _ _ _ (by simp; omega)).trans z0)
              replace z1 := (hb5.cell (p := ⟨w.heap.size + 2, 1, none⟩) (by simp; omega)).trans ((World.cell?_alloc_lt _ _ _ (by simp; omega)).trans z1)
              have f0 : w5.cell? ⟨w4.heap.size, 0, none⟩ = some (.int .i64 x) := (hb5.cell (p := ⟨w4.heap.size, 0, none⟩) (by simp)).trans (newcellA rfl rfl)
              have f1 : w5.cell? ⟨w4.heap.size, 1, none⟩ = some (.int .i64 y) := (hb5.cell (p := ⟨w4.heap.size, 1, none⟩) (by simp)).trans (newcellA rfl rfl)
              have hl4_2' : w.heap.size + 1 + 1 < w4.heap.size := by omega
              have e0 : w4.frozen? ⟨w.heap.size + 1 + 1, 0, none⟩ = false := (hf4 _ _ (by omega)).trans ((hf3 _ _ (by omega)).trans ((hf2 _ _ (by omega)).trans ((hf1 _ _ (by simp)).trans (by simp [go_sem]))))
              have e1 : w4.frozen? ⟨w.heap.size + 1 + 1, 1, none⟩ = false := (hf4 _ _ (by omega)).trans ((hf3 _ _ (by omega)).trans ((hf2 _ _ (by omega)).trans ((hf1 _ _ (by simp)).trans (by simp [go_sem]))))
              replace e0 := (hb5.frozen (p := ⟨w.heap.size + 1 + 1, 0, none⟩) (by simp; omega)).trans ((World.frozen?_of_block (Below.heap_alloc _ _ _ hl4_2')).trans e0)
              replace e1 := (hb5.frozen (p := ⟨w.heap.size + 1 + 1, 1, none⟩) (by simp; omega)).trans ((World.frozen?_of_block (Below.heap_alloc _ _ _ hl4_2')).trans e1)
              clear hb5
              rw [hv]
              go_wp2_with fail
              exact bodyPost_ret (v := .tuple #[.agg #[.int .i64 x, .int .i64 y], .int .i64 0]) (by simp [results, Try.results33, go_sem, pair_set z0 z1]) rfl ⟨rfl, (hB5.setCell (p := ⟨w.heap.size + 2, 0, none⟩) (by simp) _).setCell (p := ⟨w.heap.size + 2, 1, none⟩) (by simp) _⟩
          · rw [if_neg hl]
            rw [decide_eq_false hl] at HCm
            clear hl hn hp hr
            go_enter Try.func33, Try.ntmps33
            go_wp2_with fail
            refine (l02Ok_any p q _).mono ?_
            rintro e w1 ⟨rfl, hb1⟩
            obtain ⟨hc1, hf1, hs1⟩ := keepc hb1
            have hB1 : Below w.heap.size w w1 := Below.trans (by go_grown) (hb1.mono (by first | exact Nat.le_refl _ | (simp only [World.size_alloc]; omega)))
            try simp only [World.size_alloc] at hs1
            have hl1_0 : w.heap.size < w1.heap.size := by omega
            have hl1_1 : w.heap.size + 1 < w1.heap.size := by omega
            have hl1_2 : w.heap.size + 2 < w1.heap.size := by omega
            go_wp2_with fail
            refine (l02Ok_any r s _).mono ?_
            rintro e w2 ⟨rfl, hb2⟩
            obtain ⟨hc2, hf2, hs2⟩ := keepc hb2
            have hB2 : Below w.heap.size w w2 := hB1.trans (hb2.mono (by have := hB1.size; omega))
            have hl2_0 : w.heap.size < w2.heap.size := by omega
            have hl2_1 : w.heap.size + 1 < w2.heap.size := by omega
            have hl2_2 : w.heap.size + 2 < w2.heap.size := by omega
            rw [h2]
            go_wp2_with fail
            refine (HCm.out _).mono ?_
            rintro e w3 ⟨rfl, hb3⟩
            obtain ⟨hc3, hf3, hs3⟩ := keepc hb3
            have hB3 : Below w.heap.size w w3 := hB2.trans (hb3.mono (by have := hB2.size; omega))
            have hl3_0 : w.heap.size < w3.heap.size := by omega
            have hl3_1 : w.heap.size + 1 < w3.heap.size := by omega
            have hl3_2 : w.heap.size + 2 < w3.heap.size := by omega
            have z0 : w3.cell? ⟨w.heap.size + 2, 0, none⟩ = some (.int .i64 0) := by rw [hc3 _ _ (by omega), hc2 _ _ (by omega), hc1 _ _ (by simp only [World.size_alloc]; omega)]; simp [go_sem]
            have z1 : w3.cell? ⟨w.heap.size + 2, 1, none⟩ = some (.int .i64 0) := by rw [hc3 _ _ (by omega), hc2 _ _ (by omega), hc1 _ _ (by simp only [World.size_alloc]; omega)]; simp [go_sem]
            go_wp2_with fail
            exact bodyPost_ret (v := .tuple #[.agg #[.int .i64 0, .int .i64 0], .int .i64 6]) (by simp [results, Try.results33, go_sem, pair_set z0 z1]) rfl ⟨rfl, (hB3.setCell (p := ⟨w.heap.size + 2, 0, none⟩) (by simp) _).setCell (p := ⟨w.heap.size + 2, 1, none⟩) (by simp) _⟩
set_option maxHeartbeats 6400000 in
theorem fnExactSimplestBetween_walk (p q : Int) (_ : -9223372036854775808 ≤ p) (_ : p ≤ 9223372036854775807) (_ : -9223372036854775808 ≤ q) (_ : q ≤ 9223372036854775807)
    (r s : Int) (_ : -9223372036854775808 ≤ r) (_ : r ≤ 9223372036854775807) (_ : -9223372036854775808 ≤ s) (_ : s ≤ 9223372036854775807) (w : World) :
    Calls Try.prog 8 #[.agg #[.int .i64 p, .int .i64 q], .agg #[.int .i64 r, .int .i64 s]] w fun e w' => e = .returned (.bool true) ∧ Below w.heap.size w w' := by
  obtain ⟨x, y, c, HS, HI⟩ : ∃ x y c, Hid (∀ w, Calls Try.prog 33 #[.agg #[.int .i64 p, .int .i64 q], .agg #[.int .i64 r, .int .i64 s]] w fun e w' => e = .returned (.tuple #[.agg #[.int .i64 x, .int .i64 y], .int .i64 c]) ∧ Below w.heap.size w w') ∧
      Hid (∀ w, Calls Try.prog 34 #[.agg #[.int .i64 p, .int .i64 q], .agg #[.int .i64 r, .int .i64 s]] w fun e w' => e = .returned (.tuple #[.agg #[.int .i64 x, .int .i64 y], .int .i64 c]) ∧ Below w.heap.size w w') :=
    ⟨_, _, _, fun w => specSmb_any p q r s w, fun w => implSmb_any p q r s w⟩
  go_enter Try.func8, Try.ntmps8
  go_upto_region 1 with fail
  obtain ⟨t1, t2, t3, t4, hB0, hl0⟩ := two_start w p q r s 23 23
  have hsz0 : ((w.alloc (.cells #[.int .i64 p, .int .i64 q] 23)).alloc (.cells #[.int .i64 r, .int .i64 s] 23)).heap.size = w.heap.size + 2 := by simp
  generalize (w.alloc (.cells #[.int .i64 p, .int .i64 q] 23)).alloc (.cells #[.int .i64 r, .int .i64 s] 23) = B at t1 t2 t3 t4 hB0 hl0 hsz0 ⊢
  have H0 := Lib.hid (show B.cell? ⟨w.heap.size, 0, none⟩ = some (.int .i64 p) ∧ B.cell? ⟨w.heap.size, 1, none⟩ = some (.int .i64 q) ∧ B.cell? ⟨w.heap.size + 1, 0, none⟩ = some (.int .i64 r) ∧ B.cell? ⟨w.heap.size + 1, 1, none⟩ = some (.int .i64 s) from ⟨t1, t2, t3, t4⟩)
  have HZ := Lib.hid hsz0
  clear t1 t2 t3 t4 hsz0 hl0
  go_cut [5, 6] (fun v5 v6 wx => ∃ g : Nat, v5 = .pointer (some ⟨g, 0, none⟩) ∧ v6 = .int .i64 c ∧ wx.cell? ⟨g, 0, none⟩ = some (.int .i64 x) ∧ wx.cell? ⟨g, 1, none⟩ = some (.int .i64 y) ∧ Below B.heap.size B wx)
  case first =>
    go_region_held3 (fun w' => w'.cell? ⟨w.heap.size, 0, none⟩ = some (.int .i64 p) ∧ w'.cell? ⟨w.heap.size, 1, none⟩ = some (.int .i64 q) ∧ w'.cell? ⟨w.heap.size + 1, 0, none⟩ = some (.int .i64 r) ∧ w'.cell? ⟨w.heap.size + 1, 1, none⟩ = some (.int .i64 s) ∧ Below B.heap.size B w')
      (first | exact ext_of H0.out (ext_call (ext_b (by assumption)) hb) | exact ext_of H0.out (ext_first hb) | exact ext_of H0.out (ext_call ((Below.refl _ _).drew.alloc (by simp) _) hb) | exact ext_of H0.out ((Below.refl _ _).drew) | exact ext_of H0.out (Below.alloc (ext_b (by assumption)) (ext_le (ext_b (by assumption))) _) | exact ext_of H0.out ((Below.refl _ _).drew.alloc (by simp) _) | exact ext_of H0.out (ext_swap (ext_b (by assumption)) (by omega) _) | exact ext_of H0.out (ext_set2 (ext_b (by assumption)) (by omega) _ _))
      (first | (go_at_call 16; refine (toFraction_any _ _ _).mono ?_; rintro e w1 ⟨rfl, hb⟩; obtain ⟨hcc, hff, _⟩ := keepc hb; have hz := keepr hb; have hq := hb.size; (try simp only [World.size_drew] at hq); (try simp only [World.size_alloc] at hq); (try have hq2 := Nat.lt_of_succ_le hq); (try have e0 : w1.cell? ⟨B.heap.size, 0, none⟩ = some (.int .i64 0) := by (rw [hcc _ _ (by (try simp only [World.size_drew]); (try simp only [World.size_alloc]); omega)]; simp [go_sem])); (try have e1 : w1.cell? ⟨B.heap.size, 1, none⟩ = some (.int .i64 0) := by (rw [hcc _ _ (by (try simp only [World.size_drew]); (try simp only [World.size_alloc]); omega)]; simp [go_sem]))) | (go_at_call 33; refine (HS.out _).mono ?_; rintro e w1 ⟨rfl, hb⟩; obtain ⟨hcc, hff, _⟩ := keepc hb; have hz := keepr hb; have hq := hb.size; (try simp only [World.size_drew] at hq); (try simp only [World.size_alloc] at hq); (try have hq2 := Nat.lt_of_succ_le hq); (try have e0 : w1.cell? ⟨B.heap.size, 0, none⟩ = some (.int .i64 0) := by (rw [hcc _ _ (by (try simp only [World.size_drew]); (try simp only [World.size_alloc]); omega)]; simp [go_sem])); (try have e1 : w1.cell? ⟨B.heap.size, 1, none⟩ = some (.int .i64 0) := by (rw [hcc _ _ (by (try simp only [World.size_drew]); (try simp only [World.size_alloc]); omega)]; simp [go_sem]))))
    all_goals go_wp2_with fail
    all_goals go_meet
    all_goals refine ⟨_, rfl, rfl, ?_, ?_, ext_b (by assumption)⟩
    all_goals (first | (simp [go_sem, *]; done) | (refine (pair_set (x := .int .i64 0) (y := .int .i64 0) ?_ ?_ _ _).2.1 <;> (simp [*]; (try simp [go_sem]); done)) | (refine (pair_set (x := .int .i64 0) (y := .int .i64 0) ?_ ?_ _ _).2.2 <;> (simp [*]; (try simp [go_sem]); done)))
  case rest =>
    obtain ⟨g, rfl, rfl, hx, hy, hb1⟩ := hcut
    have h1 := ext_of H0.out hb1
    clear H0
    have H0 := Lib.hid (show wc.cell? ⟨w.heap.size, 0, none⟩ = some (.int .i64 p) ∧ wc.cell? ⟨w.heap.size, 1, none⟩ = some (.int .i64 q) ∧ wc.cell? ⟨w.heap.size + 1, 0, none⟩ = some (.int .i64 r) ∧ wc.cell? ⟨w.heap.size + 1, 1, none⟩ = some (.int .i64 s) from ⟨h1.1, h1.2.1, h1.2.2.1, h1.2.2.2.1⟩)
    have hB1 : Below w.heap.size w wc := hB0.trans (hb1.mono hB0.size)
    have HX := Lib.hid hx
    have HY := Lib.hid hy
    clear h1 hb1 hB0 HZ hx hy
    obtain ⟨w0, hw0⟩ : ∃ w0 : World, w0 = wc := ⟨_, rfl⟩
    subst hw0
    go_upto_region 2 with fail
    go_cut [7, 8] (fun v7 v8 wx => ∃ g' : Nat, v7 = .pointer (some ⟨g', 0, none⟩) ∧ v8 = .int .i64 c ∧ wx.cell? ⟨g', 0, none⟩ = some (.int .i64 x) ∧ wx.cell? ⟨g', 1, none⟩ = some (.int .i64 y) ∧ Below w0.heap.size w0 wx)
    case first =>
      go_region_held3 (fun w' => w'.cell? ⟨w.heap.size, 0, none⟩ = some (.int .i64 p) ∧ w'.cell? ⟨w.heap.size, 1, none⟩ = some (.int .i64 q) ∧ w'.cell? ⟨w.heap.size + 1, 0, none⟩ = some (.int .i64 r) ∧ w'.cell? ⟨w.heap.size + 1, 1, none⟩ = some (.int .i64 s) ∧ Below w0.heap.size w0 w')
        (first | exact ext_of H0.out (ext_call (ext_b (by assumption)) hb) | exact ext_of H0.out (ext_first hb) | exact ext_of H0.out (ext_call ((Below.refl _ _).drew.alloc (by simp) _) hb) | exact ext_of H0.out ((Below.refl _ _).drew) | exact ext_of H0.out (Below.alloc (ext_b (by assumption)) (ext_le (ext_b (by assumption))) _) | exact ext_of H0.out ((Below.refl _ _).drew.alloc (by simp) _) | exact ext_of H0.out (ext_swap (ext_b (by assumption)) (by omega) _) | exact ext_of H0.out (ext_set2 (ext_b (by assumption)) (by omega) _ _))
        (first | (go_at_call 16; refine (toFraction_any _ _ _).mono ?_; rintro e w1 ⟨rfl, hb⟩; obtain ⟨hcc, hff, _⟩ := keepc hb; have hz := keepr hb; have hq := hb.size; (try simp only [World.size_drew] at hq); (try simp only [World.size_alloc] at hq); (try have hq2 := Nat.lt_of_succ_le hq); (try have e0 : w1.cell? ⟨w0.heap.size, 0, none⟩ = some (.int .i64 0) := by (rw [hcc _ _ (by (try simp only [World.size_drew]); (try simp only [World.size_alloc]); omega)]; simp [go_sem])); (try have e1 : w1.cell? ⟨w0.heap.size, 1, none⟩ = some (.int .i64 0) := by (rw [hcc _ _ (by (try simp only [World.size_drew]); (try simp only [World.size_alloc]); omega)]; simp [go_sem]))) | (go_at_call 34; refine (HI.out _).mono ?_; rintro e w1 ⟨rfl, hb⟩; obtain ⟨hcc, hff, _⟩ := keepc hb; have hz := keepr hb; have hq := hb.size; (try simp only [World.size_drew] at hq); (try simp only [World.size_alloc] at hq); (try have hq2 := Nat.lt_of_succ_le hq); (try have e0 : w1.cell? ⟨w0.heap.size, 0, none⟩ = some (.int .i64 0) := by (rw [hcc _ _ (by (try simp only [World.size_drew]); (try simp only [World.size_alloc]); omega)]; simp [go_sem])); (try have e1 : w1.cell? ⟨w0.heap.size, 1, none⟩ = some (.int .i64 0) := by (rw [hcc _ _ (by (try simp only [World.size_drew]); (try simp only [World.size_alloc]); omega)]; simp [go_sem]))))
      all_goals go_wp2_with fail
      all_goals go_meet
      all_goals refine ⟨_, rfl, rfl, ?_, ?_, ext_b (by assumption)⟩
      all_goals (first | (simp [go_sem, *]; done) | (refine (pair_set (x := .int .i64 0) (y := .int .i64 0) ?_ ?_ _ _).2.1 <;> (simp [*]; (try simp [go_sem]); done)) | (refine (pair_set (x := .int .i64 0) (y := .int .i64 0) ?_ ?_ _ _).2.2 <;> (simp [*]; (try simp [go_sem]); done)))
    case rest =>
      obtain ⟨g', rfl, rfl, hx', hy', hb2⟩ := hcut
      have hx2 : wc.cell? ⟨g, 0, none⟩ = some (.int .i64 x) := (hb2.cell (World.block_lt_of_cell? w0 ⟨g, 0, none⟩ HX.out)).trans HX.out
      have hy2 : wc.cell? ⟨g, 1, none⟩ = some (.int .i64 y) := (hb2.cell (World.block_lt_of_cell? w0 ⟨g, 1, none⟩ HY.out)).trans HY.out
      have hB2 : Below w.heap.size w wc := hB1.trans (hb2.mono hB1.size)
      clear hb2 hB1 H0
      go_wp2_with fail
      refine (eqFraction_same x y _).mono ?_
      rintro e w3 ⟨rfl, hb3⟩
      go_wp2_with fail
      go_ret
      exact ⟨rfl, hB2.trans (hb3.mono hB2.size)⟩
end Go.Proofs.Ytbpaihbpaeoljaa
