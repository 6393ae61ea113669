/-
  What the row's list says of the two errors of strconv; the variable MaxLen in a world of the program's shape.
  No condition.
-/
import Derived.Test.YtnikogholldcmaaDoorProg
import Derived.Test.YtnikogholldcmaaDoorRdd
import Derived.Stop.LaidErr
import Derived.ProofKit
import Derived.OpenShut
namespace Go.Proofs.YtnikogholldcmaaDoor
open Go.RowKit
set_option linter.unusedVariables false
set_option maxRecDepth 100000
theorem errStar : "*" ++ "errors.errorString" = "*errors.errorString" := by decide
theorem errRow (u : TypeId) (h : (Tryd.prog).typeName? 3 u = some "*errors.errorString") : u = 163 :=
  typeName_ptr_named (nm := "errors.errorString") (by rw [errStar]; kernel_rfl) (by kernel_rfl) (by decide) u (by rw [errStar]; exact h)
theorem errCells : (Tryd.prog).cellsOf 165 = 1 := by kernel_rfl
theorem strCellsOf : (Tryd.prog).cellsOf 9 = 1 := by kernel_rfl
theorem er_of {n : String} {text : List UInt8} {r : List (String × DataW Unit)} {W : World} {g : Nat} (hg : (Tryd.prog).globalNamed n = some g) (ht : ((Tryd.prog).globals[g]?).map (·.type) = some 85)
    (h : laidMet Tryd.prog ((n, .iface "*errors.errorString" (.ptr (.agg [.lit (.string text)]))) :: r) W) : ∃ tp p, W.var? Tryd.prog n = some #[.iface tp p] := by
  obtain ⟨a, s, hv, _⟩ := laid_sentinel h hg ht Tryd.underlying85 errRow Tryd.underlying163 Tryd.underlying165 rfl rfl Tryd.underlying9 errCells strCellsOf
  exact ⟨_, _, hv⟩
end Go.Proofs.YtnikogholldcmaaDoor
