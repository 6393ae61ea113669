/-
  The walks of the laws FnExactValidFraction and FnExactAreNeighbours: each returns true.
  No condition but that the integers are int64.
-/
import Derived.Test.YtdlmjaohacemfaaProg
import Derived.Test.YtdlmjaohacemfaaMem
import Derived.Test.YtdlmjaohacemfaaBasic
import Derived.Test.YtdlmjaohacemfaaFrac
import Derived.Handy
import Derived.Deep.RegionHeld3
import Derived.Deep.DrawnRows
namespace Go.Proofs.Ytdlmjaohacemfaa
open Go.RowKit
set_option linter.unusedVariables false
attribute [local go_sem ↓] Go.wp_at_zero Go.wp_at_succ

/-- Two fractions are neighbours. -/
def nbB (p q r s : Int) : Bool := vfB p q && (vfB r s && decide ((p * s - r * q).natAbs = 1))
theorem nbB_a {p q r s : Int} (h : vfB p q = false) : nbB p q r s = false := by unfold nbB; rw [h]; rfl
theorem nbB_b {p q r s : Int} (h : vfB r s = false) : nbB p q r s = false := by unfold nbB; rw [h]; simp
theorem nbB_c {p q r s : Int} (h : vfB p q = true) (h' : vfB r s = true) : nbB p q r s = decide ((p * s - r * q).natAbs = 1) := by unfold nbB; rw [h, h']; simp

theorem areNeighbours_any (p q r s : Int) (w : World) : Calls Try.prog 11 #[.agg #[.int .i64 p, .int .i64 q], .agg #[.int .i64 r, .int .i64 s]] w fun e w' => e = .returned (.bool (nbB p q r s)) ∧ Below w.heap.size w w' := by
  by_cases h1 : vfB p q = true
  · by_cases h2 : vfB r s = true
    · rw [nbB_c h1 h2]
      obtain ⟨a1, a2, a3, a4, _⟩ := vfB_iff.1 h1
      obtain ⟨b1, b2, b3, b4, _⟩ := vfB_iff.1 h2
      obtain ⟨m1, m2⟩ := mul_bd a3 a4 (by omega) b2 (y := s)
      obtain ⟨m3, m4⟩ := mul_bd b3 b4 (by omega) a2 (y := q)
      by_cases h3 : (p * s - r * q).natAbs = 1
      · rw [decide_eq_true h3]
        have e3 : (((p * s - r * q).natAbs : Int) == 1) = true := by rw [h3]; rfl
        clear h3
        go_enter Try.func11, Try.ntmps11
        go_wp2_with fail
        refine (validFraction_any p q _).mono ?_
        rintro e w1 ⟨rfl, hb1⟩
        obtain ⟨hc1, hf1, hs1⟩ := keepc hb1
        have hB1 : Below w.heap.size w w1 := Below.trans (by go_grown) (hb1.mono (by first | exact Nat.le_refl _ | (simp only [World.size_alloc]; omega)))
        try simp only [World.size_alloc] at hs1
        have hl1_0 : w.heap.size < w1.heap.size := by omega
        have hl1_1 : w.heap.size + 1 < w1.heap.size := by omega
        go_wp2_with fail
        refine (validFraction_any r s _).mono ?_
        rintro e w2 ⟨rfl, hb2⟩
        obtain ⟨hc2, hf2, hs2⟩ := keepc hb2
        have hB2 : Below w.heap.size w w2 := hB1.trans (hb2.mono (by have := hB1.size; omega))
        have hl2_0 : w.heap.size < w2.heap.size := by omega
        have hl2_1 : w.heap.size + 1 < w2.heap.size := by omega
        go_wp2_with fail
        refine (abs_any _ _ (by omega) (by omega)).mono ?_
        rintro e w3 ⟨rfl, rfl⟩
        go_wp2_with fail
        go_ret
        exact ⟨rfl, hB2⟩
      · rw [decide_eq_false h3]
        have e3 : (((p * s - r * q).natAbs : Int) == 1) = false := by rw [beq_eq_false_iff_ne]; omega
        clear h3
        go_enter Try.func11, Try.ntmps11
        go_wp2_with fail
        refine (validFraction_any p q _).mono ?_
        rintro e w1 ⟨rfl, hb1⟩
        obtain ⟨hc1, hf1, hs1⟩ := keepc hb1
        have hB1 : Below w.heap.size w w1 := Below.trans (by go_grown) (hb1.mono (by first | exact Nat.le_refl _ | (simp only [World.size_alloc]; omega)))
        try simp only [World.size_alloc] at hs1
        have hl1_0 : w.heap.size < w1.heap.size := by omega
        have hl1_1 : w.heap.size + 1 < w1.heap.size := by omega
        go_wp2_with fail
        refine (validFraction_any r s _).mono ?_
        rintro e w2 ⟨rfl, hb2⟩
        obtain ⟨hc2, hf2, hs2⟩ := keepc hb2
        have hB2 : Below w.heap.size w w2 := hB1.trans (hb2.mono (by have := hB1.size; omega))
        have hl2_0 : w.heap.size < w2.heap.size := by omega
        have hl2_1 : w.heap.size + 1 < w2.heap.size := by omega
        go_wp2_with fail
        refine (abs_any _ _ (by omega) (by omega)).mono ?_
        rintro e w3 ⟨rfl, rfl⟩
        go_wp2_with fail
        go_ret
        exact ⟨rfl, hB2⟩
    · have h2 := eq_false_of_ne_true h2
      rw [nbB_b h2]
      go_enter Try.func11, Try.ntmps11
      go_wp2_with fail
      refine (validFraction_any p q _).mono ?_
      rintro e w1 ⟨rfl, hb1⟩
      obtain ⟨hc1, hf1, hs1⟩ := keepc hb1
      have hB1 : Below w.heap.size w w1 := Below.trans (by go_grown) (hb1.mono (by first | exact Nat.le_refl _ | (simp only [World.size_alloc]; omega)))
      try simp only [World.size_alloc] at hs1
      have hl1_0 : w.heap.size < w1.heap.size := by omega
      have hl1_1 : w.heap.size + 1 < w1.heap.size := by omega
      go_wp2_with fail
      refine (validFraction_any r s _).mono ?_
      rintro e w2 ⟨rfl, hb2⟩
      obtain ⟨hc2, hf2, hs2⟩ := keepc hb2
      have hB2 : Below w.heap.size w w2 := hB1.trans (hb2.mono (by have := hB1.size; omega))
      have hl2_0 : w.heap.size < w2.heap.size := by omega
      have hl2_1 : w.heap.size + 1 < w2.heap.size := by omega
      go_wp2_with fail
      go_ret
      exact ⟨rfl, hB2⟩
  · have h1 := eq_false_of_ne_true h1
    rw [nbB_a h1]
    go_enter Try.func11, Try.ntmps11
    go_wp2_with fail
    refine (validFraction_any p q _).mono ?_
    rintro e w1 ⟨rfl, hb1⟩
    obtain ⟨hc1, hf1, hs1⟩ := keepc hb1
    have hB1 : Below w.heap.size w w1 := Below.trans (by go_grown) (hb1.mono (by first | exact Nat.le_refl _ | (simp only [World.size_alloc]; omega)))
    try simp only [World.size_alloc] at hs1
    have hl1_0 : w.heap.size < w1.heap.size := by omega
    have hl1_1 : w.heap.size + 1 < w1.heap.size := by omega
    go_wp2_with fail
    go_ret
    exact ⟨rfl, hB1⟩
end Go.Proofs.Ytdlmjaohacemfaa
