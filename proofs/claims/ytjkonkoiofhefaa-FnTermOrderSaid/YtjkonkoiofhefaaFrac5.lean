/-
  Contracts of the quotient, of fractions made, compared and rounded down; the walks of their laws.
  No condition but those of the laws' own texts.
-/
import Derived.Test.YtjkonkoiofhefaaProg
import Derived.Test.YtjkonkoiofhefaaMem
import Derived.Test.YtjkonkoiofhefaaBasic
import Derived.Test.YtjkonkoiofhefaaFrac
import Derived.Test.YtjkonkoiofhefaaVfrac
import Derived.Test.YtjkonkoiofhefaaFrac2
import Derived.Test.YtjkonkoiofhefaaFrac3
import Derived.Test.YtjkonkoiofhefaaLaw2
import Derived.Handy
import Derived.BigQuiet
import Derived.Deep.QuietTactic
import Derived.Deep.RegionHeld3
import Derived.Deep.DrawnRows
import Derived.Deep.DeepCutAuto
namespace Go.Proofs.Ytjkonkoiofhefaa
open Go.RowKit
set_option linter.unusedVariables false
attribute [local go_sem ↓] Go.wp_at_zero Go.wp_at_succ



/-- How two fractions compare, and a code. -/
def cmpR (p q r s : Int) : Int × Int := if vfB p q = true ∧ vfB r s = true then (cmpI (p * s) (r * q), 0) else (0, 1)
theorem l02Sign_any (p q r s : Int) (w : World) (h1 : vfB p q = true) (h2 : vfB r s = true) : Calls Try.prog 62 #[.agg #[.int .i64 p, .int .i64 q], .agg #[.int .i64 r, .int .i64 s]] w fun e w' => e = .returned (.int .i64 (cmpI (p * s) (r * q))) ∧ Below w.heap.size w w' := by
  obtain ⟨a1, a2, a3, a4, _⟩ := vfB_iff.1 h1
  obtain ⟨b1, b2, b3, b4, _⟩ := vfB_iff.1 h2
  obtain ⟨m1, m2⟩ := mul_bd a3 a4 (by omega) b2 (y := s)
  obtain ⟨m3, m4⟩ := mul_bd b3 b4 (by omega) a2 (y := q)
  rcases (by omega : p * s < r * q ∨ r * q < p * s ∨ p * s = r * q) with h | h | h
  · rw [show cmpI (p * s) (r * q) = -1 from if_pos h]
    go_enter Try.func62, Try.ntmps62
    go_wp2_with fail
    go_ret
    exact ⟨rfl, by go_grown⟩
  · rw [show cmpI (p * s) (r * q) = 1 from by unfold cmpI; rw [if_neg (by omega), if_pos h]]
    have h' : ¬ p * s < r * q := by omega
    go_enter Try.func62, Try.ntmps62
    go_wp2_with fail
    go_ret
    exact ⟨rfl, by go_grown⟩
  · rw [show cmpI (p * s) (r * q) = 0 from by unfold cmpI; rw [if_neg (by omega), if_neg (by omega)]]
    have h' : ¬ p * s < r * q := by omega
    have h'' : ¬ r * q < p * s := by omega
    clear h
    go_enter Try.func62, Try.ntmps62
    go_wp2_with fail
    go_ret
    exact ⟨rfl, by go_grown⟩
theorem specCmp_any (p q r s : Int) (w : World) : Calls Try.prog 23 #[.agg #[.int .i64 p, .int .i64 q], .agg #[.int .i64 r, .int .i64 s]] w fun e w' => e = .returned (.tuple #[.int .i64 (cmpR p q r s).1, .int .i64 (cmpR p q r s).2]) ∧ Below w.heap.size w w' := by
  by_cases hh : vfB p q = true ∧ vfB r s = true
  · obtain ⟨h1, h2⟩ := hh
    rw [show cmpR p q r s = (cmpI (p * s) (r * q), 0) from if_pos ⟨h1, h2⟩]
    have ht : twoC p q r s = 0 := if_pos ⟨h1, h2⟩
    go_enter Try.func23, Try.ntmps23
    go_wp2_with fail
    refine (l02Two_any p q r s _).mono ?_
    rintro e w1 ⟨rfl, hb1⟩
    obtain ⟨hc1, hf1, hs1⟩ := keepc hb1
    have hB1 : Below w.heap.size w w1 := Below.trans (by go_grown) (hb1.mono (by first | exact Nat.le_refl _ | (simp only [World.size_alloc]; omega)))
    try simp only [World.size_alloc] at hs1
    have hl1_0 : w.heap.size < w1.heap.size := by omega
    have hl1_1 : w.heap.size + 1 < w1.heap.size := by omega
    go_wp2_with fail
    refine (l02Sign_any p q r s _ h1 h2).mono ?_
    rintro e w2 ⟨rfl, hb2⟩
    obtain ⟨hc2, hf2, hs2⟩ := keepc hb2
    have hB2 : Below w.heap.size w w2 := hB1.trans (hb2.mono (by have := hB1.size; omega))
    have hl2_0 : w.heap.size < w2.heap.size := by omega
    have hl2_1 : w.heap.size + 1 < w2.heap.size := by omega
    go_wp2_with fail
    go_ret2
    exact ⟨rfl, hB2⟩
  · rw [show cmpR p q r s = (0, 1) from if_neg hh]
    have ht : twoC p q r s = 1 := if_neg hh
    clear hh
    go_enter Try.func23, Try.ntmps23
    go_wp2_with fail
    refine (l02Two_any p q r s _).mono ?_
    rintro e w1 ⟨rfl, hb1⟩
    obtain ⟨hc1, hf1, hs1⟩ := keepc hb1
    have hB1 : Below w.heap.size w w1 := Below.trans (by go_grown) (hb1.mono (by first | exact Nat.le_refl _ | (simp only [World.size_alloc]; omega)))
    try simp only [World.size_alloc] at hs1
    have hl1_0 : w.heap.size < w1.heap.size := by omega
    have hl1_1 : w.heap.size + 1 < w1.heap.size := by omega
    go_wp2_with fail
    go_ret2
    exact ⟨rfl, hB1⟩
end Go.Proofs.Ytjkonkoiofhefaa
