/-
  The walks of the laws FnExactValidFraction and FnExactAreNeighbours: each returns true.
  No condition but that the integers are int64.
-/
import Derived.Test.YtlpglibnjmjjkaaProg
import Derived.Test.YtlpglibnjmjjkaaMem
import Derived.Test.YtlpglibnjmjjkaaBasic
import Derived.Test.YtlpglibnjmjjkaaFrac
import Derived.Handy
import Derived.Deep.RegionHeld3
import Derived.Deep.DrawnRows
namespace Go.Proofs.Ytlpglibnjmjjkaa
open Go.RowKit
set_option linter.unusedVariables false
attribute [local go_sem ↓] Go.wp_at_zero Go.wp_at_succ

/-- Two fractions are neighbours. -/
def nbB (p q r s : Int) : Bool := vfB p q && (vfB r s && decide ((p * s - r * q).natAbs = 1))
theorem nbB_a {p q r s : Int} (h : vfB p q = false) : nbB p q r s = false := by unfold nbB; rw [h]; rfl
theorem nbB_b {p q r s : Int} (h : vfB r s = false) : nbB p q r s = false := by unfold nbB; rw [h]; simp
theorem nbB_c {p q r s : Int} (h : vfB p q = true) (h' : vfB r s = true) : nbB p q r s = decide ((p * s - r * q).natAbs = 1) := by unfold nbB; rw [h, h']; simp

end Go.Proofs.Ytlpglibnjmjjkaa
