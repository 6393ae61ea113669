/-
  Contracts of the quotient, of fractions made, compared and rounded down; the walks of their laws.
  No condition but those of the laws' own texts.
-/
import Derived.Test.YtdlmjaohacemfaaProg
import Derived.Test.YtdlmjaohacemfaaMem
import Derived.Test.YtdlmjaohacemfaaBasic
import Derived.Test.YtdlmjaohacemfaaFrac
import Derived.Test.YtdlmjaohacemfaaVfrac
import Derived.Test.YtdlmjaohacemfaaFrac2
import Derived.Test.YtdlmjaohacemfaaFrac3
import Derived.Test.YtdlmjaohacemfaaLaw2
import Derived.Handy
import Derived.BigQuiet
import Derived.Deep.QuietTactic
import Derived.Deep.RegionHeld3
import Derived.Deep.DrawnRows
import Derived.Deep.DeepCutAuto
namespace Go.Proofs.Ytdlmjaohacemfaa
open Go.RowKit
set_option linter.unusedVariables false
attribute [local go_sem ↓] Go.wp_at_zero Go.wp_at_succ



/-- The floor of a fraction, and a code. -/
def flrR (p q : Int) : Int × Int := if vfB p q = true then (p / q, 0) else (0, 1)
theorem implFloor_any (p q : Int) (w : World) : Calls Try.prog 8 #[.agg #[.int .i64 p, .int .i64 q]] w fun e w' => e = .returned (.tuple #[.int .i64 (flrR p q).1, .int .i64 (flrR p q).2]) ∧ Below w.heap.size w w' := by
  cases h1 : vfB p q
  · rw [show flrR p q = (0, 1) from if_neg (by rw [h1]; decide)]
    go_enter Try.func8, Try.ntmps8
    go_wp2_with fail
    refine (validFraction_any p q _).mono ?_
    rintro e w1 ⟨rfl, hb1⟩
    obtain ⟨hc1, hf1, hs1⟩ := keepc hb1
    have hB1 : Below w.heap.size w w1 := Below.trans (by go_grown) (hb1.mono (by first | exact Nat.le_refl _ | (simp only [World.size_alloc]; omega)))
    try simp only [World.size_alloc] at hs1
    have hl1_0 : w.heap.size < w1.heap.size := by omega
    go_wp2_with fail
    go_ret2
    exact ⟨rfl, hB1⟩
  · rw [show flrR p q = (p / q, 0) from if_pos h1]
    obtain ⟨a1, a2, a3, a4, _⟩ := vfB_iff.1 h1
    go_enter Try.func8, Try.ntmps8
    go_wp2_with fail
    refine (validFraction_any p q _).mono ?_
    rintro e w1 ⟨rfl, hb1⟩
    obtain ⟨hc1, hf1, hs1⟩ := keepc hb1
    have hB1 : Below w.heap.size w w1 := Below.trans (by go_grown) (hb1.mono (by first | exact Nat.le_refl _ | (simp only [World.size_alloc]; omega)))
    try simp only [World.size_alloc] at hs1
    have hl1_0 : w.heap.size < w1.heap.size := by omega
    go_wp2_with fail
    refine (floorDiv_any p q _ (by omega) (by omega) (by omega) (by omega)).mono ?_
    rintro e w2 ⟨rfl, rfl⟩
    go_wp2_with fail
    go_ret2
    exact ⟨rfl, hB1⟩
/-- How two fractions compare, and a code. -/
def cmpR (p q r s : Int) : Int × Int := if vfB p q = true ∧ vfB r s = true then (cmpI (p * s) (r * q), 0) else (0, 1)
end Go.Proofs.Ytdlmjaohacemfaa
