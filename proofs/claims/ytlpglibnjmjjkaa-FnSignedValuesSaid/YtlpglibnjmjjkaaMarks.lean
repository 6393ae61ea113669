/-
  Contracts of the laws' marks on lists and of their checks, and of the comparison of equal lists of fractions.
  No condition but that the lists have at most 2^40 elements.
-/
import Derived.Test.YtlpglibnjmjjkaaProg
import Derived.Test.YtlpglibnjmjjkaaMem
import Derived.Test.YtlpglibnjmjjkaaBasic
import Derived.Test.YtlpglibnjmjjkaaSig
import Derived.Handy
import Derived.BigQuiet
import Derived.Deep.QuietTactic
import Derived.Deep.RegionHeld3
import Derived.Deep.DrawnRows
namespace Go.Proofs.Ytlpglibnjmjjkaa
open Go.RowKit
set_option linter.unusedVariables false
attribute [local go_sem ↓] Go.wp_at_zero Go.wp_at_succ

theorem grown_trans {a b c : World} {row : Option Nat} (h : a.grownBy b row) (k : b.grownBy c row) : a.grownBy c row :=
  ⟨k.os.trans h.os, k.tape.trans h.tape, k.output.trans h.output, Nat.le_trans h.size k.size, fun i hi hr => (k.block i (Nat.lt_of_lt_of_le hi h.size) hr).trans (h.block i hi hr)⟩

/-- The marks. -/
def mkI (k : Int) (n : Nat) : List Int := (List.range n).map fun j : Nat => k + (j : Int)
def mkP (k : Int) (n : Nat) : List (Int × Int) := (List.range n).map fun j : Nat => (k + 2 * (j : Int), k + 2 * (j : Int) + 1)
theorem mkI_len (k : Int) (n : Nat) : (mkI k n).length = n := by unfold mkI; simp
theorem mkP_len (k : Int) (n : Nat) : (mkP k n).length = n := by unfold mkP; simp
theorem mkI_get (k : Int) (n j : Nat) (h : j < n) : (mkI k n)[j]? = some (k + (j : Int)) := by unfold mkI; rw [List.getElem?_map, List.getElem?_range h]; rfl
theorem mkP_get (k : Int) (n j : Nat) (h : j < n) : (mkP k n)[j]? = some (k + 2 * (j : Int), k + 2 * (j : Int) + 1) := by unfold mkP; rw [List.getElem?_map, List.getElem?_range h]; rfl

theorem set_step {α : Type} (a b : List α) (j : Nat) (u : α) (hl : a.length = b.length) (hu : a[j]? = some u) : (a.take j ++ b.drop j).set j u = a.take (j + 1) ++ b.drop (j + 1) := by
  have hj : j < a.length := by
    rcases Nat.lt_or_ge j a.length with h | h
    · exact h
    · rw [List.getElem?_eq_none h] at hu; cases hu
  have ht : (a.take j).length = j := by rw [List.length_take]; omega
  rw [List.set_append_right _ _ (by omega), ht, Nat.sub_self, List.drop_eq_getElem_cons (show j < b.length by omega), List.set_cons_zero, List.take_add_one, hu]
  simp
theorem mix_get {α : Type} (a b : List α) (j i : Nat) (hl : a.length = b.length) (hi : j ≤ i) (hj : j ≤ a.length) : (a.take j ++ b.drop j)[i]? = b[i]? := by
  have ht : (a.take j).length = j := by rw [List.length_take]; omega
  rw [List.getElem?_append_right (by omega), ht, List.getElem?_drop]
  congr 1; omega


end Go.Proofs.Ytlpglibnjmjjkaa
