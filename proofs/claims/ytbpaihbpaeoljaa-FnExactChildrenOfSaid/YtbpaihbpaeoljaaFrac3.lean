/-
  Contracts of the exported functions on fractions, and the walks of their laws.
  No condition but those of the laws' own texts.
-/
import Derived.Test.YtbpaihbpaeoljaaProg
import Derived.Test.YtbpaihbpaeoljaaMem
import Derived.Test.YtbpaihbpaeoljaaBasic
import Derived.Test.YtbpaihbpaeoljaaFrac
import Derived.Test.YtbpaihbpaeoljaaVfrac
import Derived.Test.YtbpaihbpaeoljaaFrac2
import Derived.Handy
import Derived.RegionTactic
import Derived.BigRegion
import Derived.BigQuiet
import Derived.Deep.QuietTactic
import Derived.Deep.RegionHeld3
import Derived.Deep.DrawnRows
import Derived.Deep.DeepCutAuto
namespace Go.Proofs.Ytbpaihbpaeoljaa
open Go.RowKit
set_option linter.unusedVariables false
attribute [local go_sem ↓] Go.wp_at_zero Go.wp_at_succ

theorem eqFraction_same (p q : Int) (w : World) : Calls Try.prog 35 #[.agg #[.int .i64 p, .int .i64 q], .agg #[.int .i64 p, .int .i64 q]] w fun e w' => e = .returned (.bool true) ∧ Below w.heap.size w w' := by
  go_enter Try.func35, Try.ntmps35
  go_wp2
  go_ret
  exact ⟨rfl, by go_grown⟩



/-- What an operation on two fractions hands back: the plain fraction of num / den, or a code. -/
def opR (p q r s num den : Int) : Int × Int × Int := if vfB p q = true ∧ vfB r s = true then plR num den else (0, 0, 1)
theorem opR_t {p q r s num den : Int} (h1 : vfB p q = true) (h2 : vfB r s = true) : opR p q r s num den = plR num den := if_pos ⟨h1, h2⟩
theorem opR_a {p q r s num den : Int} (h1 : vfB p q = false) : opR p q r s num den = (0, 0, 1) := if_neg (fun h => by rw [h1] at h; cases h.1)
theorem opR_b {p q r s num den : Int} (h2 : vfB r s = false) : opR p q r s num den = (0, 0, 1) := if_neg (fun h => by rw [h2] at h; cases h.2)

end Go.Proofs.Ytbpaihbpaeoljaa
