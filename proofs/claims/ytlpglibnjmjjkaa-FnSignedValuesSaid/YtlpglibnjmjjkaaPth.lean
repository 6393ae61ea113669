/-
  The paths to fractions and the codes of positive fractions: contracts of the program's and of the reference's functions.
  No condition but that the fractions are plain where the functions ask it.
-/
import Derived.Test.YtlpglibnjmjjkaaProg
import Derived.Test.YtlpglibnjmjjkaaMem
import Derived.Test.YtlpglibnjmjjkaaBasic
import Derived.Test.YtlpglibnjmjjkaaAllk
import Derived.Test.YtlpglibnjmjjkaaFrac
import Derived.Test.YtlpglibnjmjjkaaFrac2
import Derived.Test.YtlpglibnjmjjkaaMarks
import Derived.Test.YtlpglibnjmjjkaaOwn
import Derived.Test.YtlpglibnjmjjkaaShort
import Derived.Test.YtlpglibnjmjjkaaExp
import Derived.Test.YtlpglibnjmjjkaaPthM
import Derived.Handy
import Derived.BigQuiet
import Derived.Deep.QuietTactic
import Derived.Deep.AppendLies
namespace Go.Proofs.Ytlpglibnjmjjkaa
open Go.RowKit
set_option linter.unusedVariables false
attribute [local go_sem ↓] Go.wp_at_zero Go.wp_at_succ


/-- The code of fractions that must be positive. -/
def vfE (_ : Nat) (z : Int × Int) : Bool := vfB z.1 z.2
def ppE (_ : Nat) (z : Int × Int) : Bool := decide (0 < z.1)
def posL (zs : List (Int × Int)) : Int := if allK vfE 0 zs = true then (if allK ppE 0 zs = true then 0 else 2) else 1
def posC (p q : Int) : Int := if vfB p q = true then (if 0 < p then 0 else 2) else 1
theorem posL_one (p q : Int) : posL [(p, q)] = posC p q := by
  unfold posL posC
  simp [allK, vfE, ppE]
theorem prow_one {w : World} {b : Nat} {p q : Int} (c0 : w.cell? ⟨b, 0, none⟩ = some (.int .i64 p)) (c1 : w.cell? ⟨b, 1, none⟩ = some (.int .i64 q)) (hp : Rng p) (hq : Rng q) : PRow w (some ⟨b, 0, none⟩) 1 [(p, q)] := by
  refine ⟨rfl, by omega, ?_, ?_⟩
  · intro z hz; rw [List.mem_singleton] at hz; subst hz; exact ⟨hp, hq⟩
  · rintro (_ | _ | j) u hu
    · simp [prs] at hu; subst hu; exact ⟨_, rfl, by simpa [addr_zero] using c0⟩
    · simp [prs] at hu; subst hu; exact ⟨_, rfl, by simpa [addr_zero] using c1⟩
    · simp [prs] at hu

end Go.Proofs.Ytlpglibnjmjjkaa
