/-
  Copies of lists, and the short form of terms: contracts of the program's and of the reference's functions.
  No condition but that the terms are at most 2000000000 in size and the lists not longer than 1048576.
-/
import Derived.Test.YtlpglibnjmjjkaaProg
import Derived.Test.YtlpglibnjmjjkaaMem
import Derived.Test.YtlpglibnjmjjkaaBasic
import Derived.Test.YtlpglibnjmjjkaaInts
import Derived.Test.YtlpglibnjmjjkaaMarks
import Derived.Test.YtlpglibnjmjjkaaOwn
import Derived.Lib.SliceRun
import Derived.Handy
import Derived.BigQuiet
import Derived.Deep.QuietTactic
import Derived.Deep.AppendLies
namespace Go.Proofs.Ytlpglibnjmjjkaa
open Go.RowKit
set_option linter.unusedVariables false
attribute [local go_sem ↓] Go.wp_at_zero Go.wp_at_succ

/-- A slice of n numbers, the call's own. -/
def RetN (base n : Nat) (zs : List Int) (e : Ending) (w : World) : Prop :=
  ∃ A c, e = .returned (.slice A n c) ∧ w.ownsRow base 2 1 (.slice A n c) n (zs.map (Value.int .i64))


/-- The last of several terms is 1. -/
def shB (zs : List Int) : Bool := decide (1 < zs.length ∧ zs[zs.length - 1]? = some 1)
/-- Terms with the same value of which the last is not 1, unless it is the only one. -/
def shL (zs : List Int) : List Int := if shB zs = true then (zs.take (zs.length - 1)).set (zs.length - 2) (zs.getD (zs.length - 2) 0 + 1) else zs
theorem shL_f {zs : List Int} (h : ¬ (1 < zs.length ∧ zs[zs.length - 1]? = some 1)) : shL zs = zs := if_neg (by unfold shB; simpa using h)
theorem shL_t {zs : List Int} {n : Nat} {y : Int} (hl : zs.length = n) (hn : 2 ≤ n) (h : zs[n - 1]? = some 1) (hy : zs[n - 2]? = some y) : shL zs = (zs.take (n - 1)).set (n - 2) (y + 1) := by
  have e : zs.getD (n - 2) 0 = y := by rw [List.getD_eq_getElem?_getD, hy]; rfl
  unfold shL
  rw [if_pos (by unfold shB; rw [hl]; exact decide_eq_true ⟨by omega, h⟩), hl, e]
theorem shL_len (zs : List Int) : (shL zs).length ≤ zs.length := by
  unfold shL
  split
  · rw [List.length_set, List.length_take]; omega
  · exact Nat.le_refl _

theorem take_row {w : World} {A : Option Addr} {n : Nat} {zs : List Int} (h : IRow w A n zs) (k : Nat) (hk : k ≤ n) : IRow w A k (zs.take k) :=
  ⟨by rw [List.length_take, h.1]; omega, by have := h.2.1; omega, fun z hz => h.2.2.1 z (List.mem_of_mem_take hz), by have := h.2.2.2.take_ k; rwa [← List.map_take] at this⟩

end Go.Proofs.Ytlpglibnjmjjkaa
