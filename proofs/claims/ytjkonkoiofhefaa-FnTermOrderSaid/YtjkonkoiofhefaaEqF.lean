/-
  The laws' comparison of equal lists of fractions.
  No condition.
-/
import Derived.Test.YtjkonkoiofhefaaProg
import Derived.Test.YtjkonkoiofhefaaMem
import Derived.Test.YtjkonkoiofhefaaBasic
import Derived.Test.YtjkonkoiofhefaaSig
import Derived.Test.YtjkonkoiofhefaaFrac3
import Derived.Handy
import Derived.BigQuiet
import Derived.RegionTactic
import Derived.BigRegion
import Derived.Deep.QuietTactic
import Derived.Deep.RegionHeld3
import Derived.Deep.DrawnRows
namespace Go.Proofs.Ytjkonkoiofhefaa
open Go.RowKit
set_option linter.unusedVariables false
attribute [local go_sem ↓] Go.wp_at_zero Go.wp_at_succ

theorem eqFractionS_same (A : Option Addr) (n cap : Nat) (A' : Option Addr) (cap' : Nat) (zs : List (Int × Int)) (w : World) (h : PRow w A n zs) (h' : PRow w A' n zs) :
    Calls Try.prog 33 #[.slice A n cap, .slice A' n cap'] w fun e w' => e = .returned (.bool true) ∧ Below w.heap.size w w' := by
  have hbd := h.bd
  have hw := Lib.hid h; clear h
  have hw' := Lib.hid h'; clear h'
  go_enter Try.func33, Try.ntmps33
  go_wp2
  go_loopw [5] (fun i wr => ∃ k : Nat, k ≤ n ∧ i = .int .i64 k ∧ Below w.heap.size w wr) (fun i _ => n - (intOf i).toNat)
  case atStart => exact ⟨0, Nat.zero_le _, rfl, Below.refl _ _⟩
  case round =>
    obtain ⟨k, hk, rfl, hb⟩ := hrel
    by_cases hlt : k < n
    · obtain ⟨bb, o, x, y, rfl, hz, x1, x2, y1, y2, hc1, hc2⟩ := (hw.out.below hb).at_ hlt
      obtain ⟨bb', o', x', y', rfl, hz', _, _, _, _, hc1', hc2'⟩ := (hw'.out.below hb).at_ hlt
      rw [hz] at hz'; injection hz' with hz'; injection hz' with e1 e2; subst e1 e2
      clear hz
      have hb0 : (0 : Int) ≤ (k : Int) := by omega
      have hb1 : (k : Int) < (n : Int) := by omega
      go_wp2
      go_region_held3 (fun w' => w'.cell? ⟨bb, o + k * 2, none⟩ = some (.int .i64 x) ∧ w'.cell? ⟨bb, o + k * 2 + 1, none⟩ = some (.int .i64 y) ∧ w'.cell? ⟨bb', o' + k * 2, none⟩ = some (.int .i64 x) ∧ w'.cell? ⟨bb', o' + k * 2 + 1, none⟩ = some (.int .i64 y) ∧ Below w.heap.size w w')
        (first | exact four_keep (by assumption) hbb | exact four_drew ⟨hc1, hc2, hc1', hc2', hb⟩ | exact four_drew (by assumption))
        (first | (go_at_call 16; refine (eqFraction_same x y _).mono ?_; rintro e w1 ⟨rfl, hbb⟩))
      go_wp2
      go_roundw
      case rel => exact ⟨k + 1, by omega, by go_num, four_below (by assumption)⟩
      case measure => simp [intOf]; omega
    · obtain rfl : n = k := by omega
      go_wp2
      go_ret
      exact ⟨rfl, hb⟩
end Go.Proofs.Ytjkonkoiofhefaa
