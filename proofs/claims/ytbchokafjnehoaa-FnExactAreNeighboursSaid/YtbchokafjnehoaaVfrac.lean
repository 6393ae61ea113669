/-
  The walks of the laws FnExactValidFraction and FnExactAreNeighbours: each returns true.
  No condition but that the integers are int64.
-/
import Derived.Test.YtbchokafjnehoaaProg
import Derived.Test.YtbchokafjnehoaaMem
import Derived.Test.YtbchokafjnehoaaBasic
import Derived.Test.YtbchokafjnehoaaFrac
import Derived.Handy
import Derived.Deep.RegionHeld3
import Derived.Deep.DrawnRows
namespace Go.Proofs.Ytbchokafjnehoaa
open Go.RowKit
set_option linter.unusedVariables false
attribute [local go_sem ↓] Go.wp_at_zero Go.wp_at_succ

theorem specValidFraction_any (p q : Int) (w : World) : Calls Try.prog 24 #[.agg #[.int .i64 p, .int .i64 q]] w fun e w' => e = .returned (.bool (vfB p q)) ∧ Below w.heap.size w w' := by
  go_enter Try.func24, Try.ntmps24
  go_wp2_with (first | (go_at_call 49; refine (l02Ok_any p q _).mono ?_; rintro e w1 ⟨rfl, hb⟩))
  go_ret
  exact ⟨rfl, ((Below.refl _ _).alloc (Nat.le_refl _) _).trans (hb.mono (by simp))⟩
theorem fnExactValidFraction_walk (p q : Int) (h1 : -9223372036854775808 ≤ p) (h2 : p ≤ 9223372036854775807) (h3 : -9223372036854775808 ≤ q) (h4 : q ≤ 9223372036854775807) (w : World) :
    Calls Try.prog 8 #[.agg #[.int .i64 p, .int .i64 q]] w fun e w' => e = .returned (.bool true) ∧ Below w.heap.size w w' := by
  clear h1 h2 h3 h4
  go_enter Try.func8, Try.ntmps8
  go_wp2_with fail
  refine (toFraction_any p q _).mono ?_
  rintro e w1 ⟨rfl, hb1⟩
  obtain ⟨hc1, hf1, hs1⟩ := keepc hb1
  have hB1 : Below w.heap.size w w1 := Below.trans (by go_grown) (hb1.mono (by simp only [World.size_alloc]; omega))
  try simp only [World.size_alloc] at hs1
  have hl1_0 : w.heap.size < w1.heap.size := by omega
  go_wp2_with fail
  refine (specValidFraction_any p q _).mono ?_
  rintro e w2 ⟨rfl, hb2⟩
  obtain ⟨hc2, hf2, hs2⟩ := keepc hb2
  have hB2 : Below w.heap.size w w2 := hB1.trans (hb2.mono (by have := hB1.size; omega))
  have hl2_0 : w.heap.size < w2.heap.size := by omega
  go_wp2_with fail
  refine (toFraction_any p q _).mono ?_
  rintro e w3 ⟨rfl, hb3⟩
  obtain ⟨hc3, hf3, hs3⟩ := keepc hb3
  have hB3 : Below w.heap.size w w3 := hB2.trans (hb3.mono (by have := hB2.size; omega))
  have hl3_0 : w.heap.size < w3.heap.size := by omega
  go_wp2_with fail
  refine (validFraction_any p q _).mono ?_
  rintro e w4 ⟨rfl, hb4⟩
  obtain ⟨hc4, hf4, hs4⟩ := keepc hb4
  have hB4 : Below w.heap.size w w4 := hB3.trans (hb4.mono (by have := hB3.size; omega))
  have hl4_0 : w.heap.size < w4.heap.size := by omega
  go_wp2_with fail
  go_ret
  exact ⟨rfl, hB4⟩
/-- Two fractions are neighbours. -/
def nbB (p q r s : Int) : Bool := vfB p q && (vfB r s && decide ((p * s - r * q).natAbs = 1))
theorem nbB_a {p q r s : Int} (h : vfB p q = false) : nbB p q r s = false := by unfold nbB; rw [h]; rfl
theorem nbB_b {p q r s : Int} (h : vfB r s = false) : nbB p q r s = false := by unfold nbB; rw [h]; simp
theorem nbB_c {p q r s : Int} (h : vfB p q = true) (h' : vfB r s = true) : nbB p q r s = decide ((p * s - r * q).natAbs = 1) := by unfold nbB; rw [h, h']; simp

theorem areNeighbours_any (p q r s : Int) (w : World) : Calls Try.prog 32 #[.agg #[.int .i64 p, .int .i64 q], .agg #[.int .i64 r, .int .i64 s]] w fun e w' => e = .returned (.bool (nbB p q r s)) ∧ Below w.heap.size w w' := by
  by_cases h1 : vfB p q = true
  · by_cases h2 : vfB r s = true
    · rw [nbB_c h1 h2]
      obtain ⟨a1, a2, a3, a4, _⟩ := vfB_iff.1 h1
      obtain ⟨b1, b2, b3, b4, _⟩ := vfB_iff.1 h2
      obtain ⟨m1, m2⟩ := mul_bd a3 a4 (by omega) b2 (y := s)
      obtain ⟨m3, m4⟩ := mul_bd b3 b4 (by omega) a2 (y := q)
      by_cases h3 : (p * s - r * q).natAbs = 1
      · rw [decide_eq_true h3]
        have e3 : (((p * s - r * q).natAbs : Int) == 1) = true := by rw [h3]; rfl
        clear h3
        go_enter Try.func32, Try.ntmps32
        go_wp2_with fail
        refine (validFraction_any p q _).mono ?_
        rintro e w1 ⟨rfl, hb1⟩
        obtain ⟨hc1, hf1, hs1⟩ := keepc hb1
        have hB1 : Below w.heap.size w w1 := Below.trans (by go_grown) (hb1.mono (by simp only [World.size_alloc]; omega))
        try simp only [World.size_alloc] at hs1
        have hl1_0 : w.heap.size < w1.heap.size := by omega
        have hl1_1 : w.heap.size + 1 < w1.heap.size := by omega
        go_wp2_with fail
        refine (validFraction_any r s _).mono ?_
        rintro e w2 ⟨rfl, hb2⟩
        obtain ⟨hc2, hf2, hs2⟩ := keepc hb2
        have hB2 : Below w.heap.size w w2 := hB1.trans (hb2.mono (by have := hB1.size; omega))
        have hl2_0 : w.heap.size < w2.heap.size := by omega
        have hl2_1 : w.heap.size + 1 < w2.heap.size := by omega
        go_wp2_with fail
        refine (abs_any _ _ (by omega) (by omega)).mono ?_
        rintro e w3 ⟨rfl, rfl⟩
        go_wp2_with fail
        go_ret
        exact ⟨rfl, hB2⟩
      · rw [decide_eq_false h3]
        have e3 : (((p * s - r * q).natAbs : Int) == 1) = false := by rw [beq_eq_false_iff_ne]; omega
        clear h3
        go_enter Try.func32, Try.ntmps32
        go_wp2_with fail
        refine (validFraction_any p q _).mono ?_
        rintro e w1 ⟨rfl, hb1⟩
        obtain ⟨hc1, hf1, hs1⟩ := keepc hb1
        have hB1 : Below w.heap.size w w1 := Below.trans (by go_grown) (hb1.mono (by simp only [World.size_alloc]; omega))
        try simp only [World.size_alloc] at hs1
        have hl1_0 : w.heap.size < w1.heap.size := by omega
        have hl1_1 : w.heap.size + 1 < w1.heap.size := by omega
        go_wp2_with fail
        refine (validFraction_any r s _).mono ?_
        rintro e w2 ⟨rfl, hb2⟩
        obtain ⟨hc2, hf2, hs2⟩ := keepc hb2
        have hB2 : Below w.heap.size w w2 := hB1.trans (hb2.mono (by have := hB1.size; omega))
        have hl2_0 : w.heap.size < w2.heap.size := by omega
        have hl2_1 : w.heap.size + 1 < w2.heap.size := by omega
        go_wp2_with fail
        refine (abs_any _ _ (by omega) (by omega)).mono ?_
        rintro e w3 ⟨rfl, rfl⟩
        go_wp2_with fail
        go_ret
        exact ⟨rfl, hB2⟩
    · have h2 := eq_false_of_ne_true h2
      rw [nbB_b h2]
      go_enter Try.func32, Try.ntmps32
      go_wp2_with fail
      refine (validFraction_any p q _).mono ?_
      rintro e w1 ⟨rfl, hb1⟩
      obtain ⟨hc1, hf1, hs1⟩ := keepc hb1
      have hB1 : Below w.heap.size w w1 := Below.trans (by go_grown) (hb1.mono (by simp only [World.size_alloc]; omega))
      try simp only [World.size_alloc] at hs1
      have hl1_0 : w.heap.size < w1.heap.size := by omega
      have hl1_1 : w.heap.size + 1 < w1.heap.size := by omega
      go_wp2_with fail
      refine (validFraction_any r s _).mono ?_
      rintro e w2 ⟨rfl, hb2⟩
      obtain ⟨hc2, hf2, hs2⟩ := keepc hb2
      have hB2 : Below w.heap.size w w2 := hB1.trans (hb2.mono (by have := hB1.size; omega))
      have hl2_0 : w.heap.size < w2.heap.size := by omega
      have hl2_1 : w.heap.size + 1 < w2.heap.size := by omega
      go_wp2_with fail
      go_ret
      exact ⟨rfl, hB2⟩
  · have h1 := eq_false_of_ne_true h1
    rw [nbB_a h1]
    go_enter Try.func32, Try.ntmps32
    go_wp2_with fail
    refine (validFraction_any p q _).mono ?_
    rintro e w1 ⟨rfl, hb1⟩
    obtain ⟨hc1, hf1, hs1⟩ := keepc hb1
    have hB1 : Below w.heap.size w w1 := Below.trans (by go_grown) (hb1.mono (by simp only [World.size_alloc]; omega))
    try simp only [World.size_alloc] at hs1
    have hl1_0 : w.heap.size < w1.heap.size := by omega
    have hl1_1 : w.heap.size + 1 < w1.heap.size := by omega
    go_wp2_with fail
    go_ret
    exact ⟨rfl, hB1⟩
/-- The code of two fractions. -/
def twoC (p q r s : Int) : Int := if vfB p q = true ∧ vfB r s = true then 0 else 1
theorem l02Two_any (p q r s : Int) (w : World) : Calls Try.prog 56 #[.agg #[.int .i64 p, .int .i64 q], .agg #[.int .i64 r, .int .i64 s]] w fun e w' => e = .returned (.int .i64 (twoC p q r s)) ∧ Below w.heap.size w w' := by
  by_cases h1 : vfB p q = true
  · by_cases h2 : vfB r s = true
    · rw [show twoC p q r s = 0 from if_pos ⟨h1, h2⟩]
      go_enter Try.func56, Try.ntmps56
      go_wp2_with fail
      refine (l02Ok_any p q _).mono ?_
      rintro e w1 ⟨rfl, hb1⟩
      obtain ⟨hc1, hf1, hs1⟩ := keepc hb1
      have hB1 : Below w.heap.size w w1 := Below.trans (by go_grown) (hb1.mono (by simp only [World.size_alloc]; omega))
      try simp only [World.size_alloc] at hs1
      have hl1_0 : w.heap.size < w1.heap.size := by omega
      have hl1_1 : w.heap.size + 1 < w1.heap.size := by omega
      go_wp2_with fail
      refine (l02Ok_any r s _).mono ?_
      rintro e w2 ⟨rfl, hb2⟩
      obtain ⟨hc2, hf2, hs2⟩ := keepc hb2
      have hB2 : Below w.heap.size w w2 := hB1.trans (hb2.mono (by have := hB1.size; omega))
      have hl2_0 : w.heap.size < w2.heap.size := by omega
      have hl2_1 : w.heap.size + 1 < w2.heap.size := by omega
      go_wp2_with fail
      go_ret
      exact ⟨rfl, hB2⟩
    · rw [show twoC p q r s = 1 from if_neg (fun h => h2 h.2)]
      have h2 := eq_false_of_ne_true h2
      go_enter Try.func56, Try.ntmps56
      go_wp2_with fail
      refine (l02Ok_any p q _).mono ?_
      rintro e w1 ⟨rfl, hb1⟩
      obtain ⟨hc1, hf1, hs1⟩ := keepc hb1
      have hB1 : Below w.heap.size w w1 := Below.trans (by go_grown) (hb1.mono (by simp only [World.size_alloc]; omega))
      try simp only [World.size_alloc] at hs1
      have hl1_0 : w.heap.size < w1.heap.size := by omega
      have hl1_1 : w.heap.size + 1 < w1.heap.size := by omega
      go_wp2_with fail
      refine (l02Ok_any r s _).mono ?_
      rintro e w2 ⟨rfl, hb2⟩
      obtain ⟨hc2, hf2, hs2⟩ := keepc hb2
      have hB2 : Below w.heap.size w w2 := hB1.trans (hb2.mono (by have := hB1.size; omega))
      have hl2_0 : w.heap.size < w2.heap.size := by omega
      have hl2_1 : w.heap.size + 1 < w2.heap.size := by omega
      go_wp2_with fail
      go_ret
      exact ⟨rfl, hB2⟩
  · rw [show twoC p q r s = 1 from if_neg (fun h => h1 h.1)]
    have h1 := eq_false_of_ne_true h1
    go_enter Try.func56, Try.ntmps56
    go_wp2_with fail
    refine (l02Ok_any p q _).mono ?_
    rintro e w1 ⟨rfl, hb1⟩
    obtain ⟨hc1, hf1, hs1⟩ := keepc hb1
    have hB1 : Below w.heap.size w w1 := Below.trans (by go_grown) (hb1.mono (by simp only [World.size_alloc]; omega))
    try simp only [World.size_alloc] at hs1
    have hl1_0 : w.heap.size < w1.heap.size := by omega
    have hl1_1 : w.heap.size + 1 < w1.heap.size := by omega
    go_wp2_with fail
    go_ret
    exact ⟨rfl, hB1⟩
theorem specAreNeighbours_any (p q r s : Int) (w : World) : Calls Try.prog 31 #[.agg #[.int .i64 p, .int .i64 q], .agg #[.int .i64 r, .int .i64 s]] w fun e w' => e = .returned (.bool (nbB p q r s)) ∧ Below w.heap.size w w' := by
  by_cases hh : vfB p q = true ∧ vfB r s = true
  · obtain ⟨h1, h2⟩ := hh
    rw [nbB_c h1 h2]
    obtain ⟨a1, a2, a3, a4, _⟩ := vfB_iff.1 h1
    obtain ⟨b1, b2, b3, b4, _⟩ := vfB_iff.1 h2
    obtain ⟨m1, m2⟩ := mul_bd a3 a4 (by omega) b2 (y := s)
    obtain ⟨m3, m4⟩ := mul_bd b3 b4 (by omega) a2 (y := q)
    have ht : twoC p q r s = 0 := if_pos ⟨h1, h2⟩
    by_cases h3 : (p * s - r * q).natAbs = 1
    · rw [decide_eq_true h3]
      have e3 : (((p * s - r * q).natAbs : Int) == 1) = true := by rw [h3]; rfl
      clear h3
      go_enter Try.func31, Try.ntmps31
      go_wp2_with fail
      refine (l02Two_any p q r s _).mono ?_
      rintro e w1 ⟨rfl, hb1⟩
      obtain ⟨hc1, hf1, hs1⟩ := keepc hb1
      have hB1 : Below w.heap.size w w1 := Below.trans (by go_grown) (hb1.mono (by simp only [World.size_alloc]; omega))
      try simp only [World.size_alloc] at hs1
      have hl1_0 : w.heap.size < w1.heap.size := by omega
      have hl1_1 : w.heap.size + 1 < w1.heap.size := by omega
      go_wp2_with fail
      refine (l02Size_any _ _ (by omega) (by omega)).mono ?_
      rintro e w3 ⟨rfl, rfl⟩
      go_wp2_with fail
      go_ret
      exact ⟨rfl, hB1⟩
    · rw [decide_eq_false h3]
      have e3 : (((p * s - r * q).natAbs : Int) == 1) = false := by rw [beq_eq_false_iff_ne]; omega
      clear h3
      go_enter Try.func31, Try.ntmps31
      go_wp2_with fail
      refine (l02Two_any p q r s _).mono ?_
      rintro e w1 ⟨rfl, hb1⟩
      obtain ⟨hc1, hf1, hs1⟩ := keepc hb1
      have hB1 : Below w.heap.size w w1 := Below.trans (by go_grown) (hb1.mono (by simp only [World.size_alloc]; omega))
      try simp only [World.size_alloc] at hs1
      have hl1_0 : w.heap.size < w1.heap.size := by omega
      have hl1_1 : w.heap.size + 1 < w1.heap.size := by omega
      go_wp2_with fail
      refine (l02Size_any _ _ (by omega) (by omega)).mono ?_
      rintro e w3 ⟨rfl, rfl⟩
      go_wp2_with fail
      go_ret
      exact ⟨rfl, hB1⟩
  · have hn : nbB p q r s = false := by
      by_cases h1 : vfB p q = true
      · exact nbB_b (eq_false_of_ne_true (fun h2 => hh ⟨h1, h2⟩))
      · exact nbB_a (eq_false_of_ne_true h1)
    rw [hn]
    have ht : twoC p q r s = 1 := if_neg hh
    clear hh hn
    go_enter Try.func31, Try.ntmps31
    go_wp2_with fail
    refine (l02Two_any p q r s _).mono ?_
    rintro e w1 ⟨rfl, hb1⟩
    obtain ⟨hc1, hf1, hs1⟩ := keepc hb1
    have hB1 : Below w.heap.size w w1 := Below.trans (by go_grown) (hb1.mono (by simp only [World.size_alloc]; omega))
    try simp only [World.size_alloc] at hs1
    have hl1_0 : w.heap.size < w1.heap.size := by omega
    have hl1_1 : w.heap.size + 1 < w1.heap.size := by omega
    go_wp2_with fail
    go_ret
    exact ⟨rfl, hB1⟩
theorem fnExactAreNeighbours_walk (p q : Int) (_ : -9223372036854775808 ≤ p) (_ : p ≤ 9223372036854775807) (_ : -9223372036854775808 ≤ q) (_ : q ≤ 9223372036854775807)
    (r s : Int) (_ : -9223372036854775808 ≤ r) (_ : r ≤ 9223372036854775807) (_ : -9223372036854775808 ≤ s) (_ : s ≤ 9223372036854775807) (w : World) :
    Calls Try.prog 11 #[.agg #[.int .i64 p, .int .i64 q], .agg #[.int .i64 r, .int .i64 s]] w fun e w' => e = .returned (.bool true) ∧ Below w.heap.size w w' := by
  go_enter Try.func11, Try.ntmps11
  go_wp2_with fail
  go_region_held3 (fun w' => w'.cell? ⟨w.heap.size, 0, none⟩ = some (.int .i64 p) ∧ w'.cell? ⟨w.heap.size, 1, none⟩ = some (.int .i64 q) ∧ w'.cell? ⟨w.heap.size + 1, 0, none⟩ = some (.int .i64 r) ∧ w'.cell? ⟨w.heap.size + 1, 1, none⟩ = some (.int .i64 s) ∧ Below w.heap.size w w' ∧ w.heap.size + 1 < w'.heap.size)
    (first | exact two_keep' (by assumption) hb | exact two_drew (by assumption) | exact two_keep' (two_drew (two_start w p q r s _ _)) hb | exact two_drew (two_start w p q r s _ _))
    (first | (go_at_call 25; refine (toFraction_any _ _ _).mono ?_; rintro e w1 ⟨rfl, hb⟩) | (go_at_call 31; refine (specAreNeighbours_any p q r s _).mono ?_; rintro e w1 ⟨rfl, hb⟩))
  go_wp2
  go_region_held3 (fun w' => w'.cell? ⟨w.heap.size, 0, none⟩ = some (.int .i64 p) ∧ w'.cell? ⟨w.heap.size, 1, none⟩ = some (.int .i64 q) ∧ w'.cell? ⟨w.heap.size + 1, 0, none⟩ = some (.int .i64 r) ∧ w'.cell? ⟨w.heap.size + 1, 1, none⟩ = some (.int .i64 s) ∧ Below w.heap.size w w' ∧ w.heap.size + 1 < w'.heap.size)
    (first | exact two_keep' (by assumption) hb | exact two_drew (by assumption) | exact two_keep' (two_drew (two_start w p q r s _ _)) hb | exact two_drew (two_start w p q r s _ _))
    (first | (go_at_call 25; refine (toFraction_any _ _ _).mono ?_; rintro e w1 ⟨rfl, hb⟩) | (go_at_call 32; refine (areNeighbours_any p q r s _).mono ?_; rintro e w1 ⟨rfl, hb⟩))
  go_wp2
  go_ret
  exact ⟨rfl, two_below (by assumption)⟩
end Go.Proofs.Ytbchokafjnehoaa
