/-
  Contracts of the quotient, of fractions made, compared and rounded down; the walks of their laws.
  No condition but those of the laws' own texts.
-/
import Derived.Test.YtbpaihbpaeoljaaProg
import Derived.Test.YtbpaihbpaeoljaaMem
import Derived.Test.YtbpaihbpaeoljaaBasic
import Derived.Test.YtbpaihbpaeoljaaFrac
import Derived.Test.YtbpaihbpaeoljaaVfrac
import Derived.Test.YtbpaihbpaeoljaaFrac2
import Derived.Test.YtbpaihbpaeoljaaFrac3
import Derived.Test.YtbpaihbpaeoljaaLaw2
import Derived.Handy
import Derived.BigQuiet
import Derived.Deep.QuietTactic
import Derived.Deep.RegionHeld3
import Derived.Deep.DrawnRows
import Derived.Deep.DeepCutAuto
namespace Go.Proofs.Ytbpaihbpaeoljaa
open Go.RowKit
set_option linter.unusedVariables false
attribute [local go_sem ↓] Go.wp_at_zero Go.wp_at_succ



/-- How two fractions compare, and a code. -/
def cmpR (p q r s : Int) : Int × Int := if vfB p q = true ∧ vfB r s = true then (cmpI (p * s) (r * q), 0) else (0, 1)
theorem compareF_any (p q r s : Int) (w : World) (h1 : vfB p q = true) (h2 : vfB r s = true) : Calls Try.prog 73 #[.agg #[.int .i64 p, .int .i64 q], .agg #[.int .i64 r, .int .i64 s]] w fun e w' => e = .returned (.int .i64 (cmpI (p * s) (r * q))) ∧ Below w.heap.size w w' := by
  obtain ⟨a1, a2, a3, a4, _⟩ := vfB_iff.1 h1
  obtain ⟨b1, b2, b3, b4, _⟩ := vfB_iff.1 h2
  obtain ⟨m1, m2⟩ := mul_bd a3 a4 (by omega) b2 (y := s)
  obtain ⟨m3, m4⟩ := mul_bd b3 b4 (by omega) a2 (y := q)
  go_enter Try.func73, Try.ntmps73
  go_wp2_with fail
  refine (compare_any _ _ _).mono ?_
  rintro e w1 ⟨rfl, rfl⟩
  go_wp2_with fail
  go_ret
  exact ⟨rfl, by go_grown⟩
theorem l02Sign_any (p q r s : Int) (w : World) (h1 : vfB p q = true) (h2 : vfB r s = true) : Calls Try.prog 99 #[.agg #[.int .i64 p, .int .i64 q], .agg #[.int .i64 r, .int .i64 s]] w fun e w' => e = .returned (.int .i64 (cmpI (p * s) (r * q))) ∧ Below w.heap.size w w' := by
  obtain ⟨a1, a2, a3, a4, _⟩ := vfB_iff.1 h1
  obtain ⟨b1, b2, b3, b4, _⟩ := vfB_iff.1 h2
  obtain ⟨m1, m2⟩ := mul_bd a3 a4 (by omega) b2 (y := s)
  obtain ⟨m3, m4⟩ := mul_bd b3 b4 (by omega) a2 (y := q)
  rcases (by omega : p * s < r * q ∨ r * q < p * s ∨ p * s = r * q) with h | h | h
  · rw [show cmpI (p * s) (r * q) = -1 from if_pos h]
    go_enter Try.func99, Try.ntmps99
    go_wp2_with fail
    go_ret
    exact ⟨rfl, by go_grown⟩
  · rw [show cmpI (p * s) (r * q) = 1 from by unfold cmpI; rw [if_neg (by omega), if_pos h]]
    have h' : ¬ p * s < r * q := by omega
    go_enter Try.func99, Try.ntmps99
    go_wp2_with fail
    go_ret
    exact ⟨rfl, by go_grown⟩
  · rw [show cmpI (p * s) (r * q) = 0 from by unfold cmpI; rw [if_neg (by omega), if_neg (by omega)]]
    have h' : ¬ p * s < r * q := by omega
    have h'' : ¬ r * q < p * s := by omega
    clear h
    go_enter Try.func99, Try.ntmps99
    go_wp2_with fail
    go_ret
    exact ⟨rfl, by go_grown⟩
end Go.Proofs.Ytbpaihbpaeoljaa
