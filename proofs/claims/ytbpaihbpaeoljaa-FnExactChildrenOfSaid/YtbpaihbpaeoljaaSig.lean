/-
  Contracts of the laws' helpers on lists of terms with signs: the size, the copy, the comparison of equal lists; the comparisons of the program and the reference; the walk of the law FnExactSameSigned.
  No condition but those of the law's own text.
-/
import Derived.Test.YtbpaihbpaeoljaaProg
import Derived.Test.YtbpaihbpaeoljaaMem
import Derived.Test.YtbpaihbpaeoljaaBasic
import Derived.Test.YtbpaihbpaeoljaaAllk
import Derived.Handy
import Derived.Laws.StructEq
import Derived.BigQuiet
import Derived.Deep.QuietTactic
import Derived.Deep.RegionHeld3
import Derived.Deep.DrawnRows
namespace Go.Proofs.Ytbpaihbpaeoljaa
open Go.RowKit
set_option linter.unusedVariables false
attribute [local go_sem ↓] Go.wp_at_zero Go.wp_at_succ




theorem prs_fill (zs : List (Int × Int)) (n k : Nat) (x y : Int) (hl : zs.length = n) (hk : k < n) (hz : zs[k]? = some (x, y)) :
    ((prs (zs.take k) ++ List.replicate ((n - k) * 2) (Value.int .i64 0)).set (k * 2) (Value.int .i64 x)).set (k * 2 + 1) (.int .i64 y) = prs (zs.take (k + 1)) ++ List.replicate ((n - (k + 1)) * 2) (.int .i64 0) := by
  have ht : (prs (zs.take k)).length = k * 2 := by rw [prs_length, List.length_take]; omega
  obtain ⟨m, hm⟩ : ∃ m, n - k = m + 1 := ⟨n - k - 1, by omega⟩
  rw [List.set_append_right _ _ (by omega), ht, Nat.sub_self, hm, show (m + 1) * 2 = m * 2 + 1 + 1 from by omega, List.replicate_succ, List.replicate_succ, List.set_cons_zero, List.set_append_right _ _ (by omega), ht, show k * 2 + 1 - k * 2 = 1 from by omega, List.take_add_one, hz, prs_append, show n - (k + 1) = m from by omega]
  simp [prs]
theorem prs_zero (n k : Nat) (zs : List (Int × Int)) (hl : zs.length = n) (hk : k < n) (j : Nat) (hj : j < 2) : (prs (zs.take k) ++ List.replicate ((n - k) * 2) (Value.int .i64 0))[k * 2 + j]? = some (.int .i64 0) := by
  have ht : (prs (zs.take k)).length = k * 2 := by rw [prs_length, List.length_take]; omega
  rw [List.getElem?_append_right (by omega), ht, List.getElem?_replicate, if_pos (by omega)]

theorem made2 (n : Nat) : (madeCells #[Value.int .i64 0, Value.int .i64 0] (n * 2)).toList = List.replicate (n * 2) (.int .i64 0) := by
  apply List.ext_getElem?
  intro j
  by_cases hj : j < n * 2
  · simp only [madeCells, Array.getElem?_toList]
    rcases (by omega : j % 2 = 0 ∨ j % 2 = 1) with h | h <;> simp [hj, h]
  · simp [madeCells, hj]


section
variable {w W w1 : World} {a b c d : Addr} {x y z u : Value}
theorem four_keep (h : W.cell? a = some x ∧ W.cell? b = some y ∧ W.cell? c = some z ∧ W.cell? d = some u ∧ Below w.heap.size w W) (hb : Below W.heap.size W w1) :
    w1.cell? a = some x ∧ w1.cell? b = some y ∧ w1.cell? c = some z ∧ w1.cell? d = some u ∧ Below w.heap.size w w1 :=
  ⟨(hb.cell (World.block_lt_of_cell? W a h.1)).trans h.1, (hb.cell (World.block_lt_of_cell? W b h.2.1)).trans h.2.1, (hb.cell (World.block_lt_of_cell? W c h.2.2.1)).trans h.2.2.1, (hb.cell (World.block_lt_of_cell? W d h.2.2.2.1)).trans h.2.2.2.1,
    h.2.2.2.2.trans (hb.mono h.2.2.2.2.size)⟩
theorem four_drew (h : W.cell? a = some x ∧ W.cell? b = some y ∧ W.cell? c = some z ∧ W.cell? d = some u ∧ Below w.heap.size w W) :
    W.drew.cell? a = some x ∧ W.drew.cell? b = some y ∧ W.drew.cell? c = some z ∧ W.drew.cell? d = some u ∧ Below w.heap.size w W.drew := ⟨h.1, h.2.1, h.2.2.1, h.2.2.2.1, h.2.2.2.2.drew⟩
theorem four_below (h : W.cell? a = some x ∧ W.cell? b = some y ∧ W.cell? c = some z ∧ W.cell? d = some u ∧ Below w.heap.size w W) : Below w.heap.size w W := h.2.2.2.2
end


/-- Two lists of pairs are equal. -/
def sameB (zs ys : List (Int × Int)) : Bool := decide (zs = ys)
def Alike (zs ys : List (Int × Int)) (k : Nat) : Prop := ∀ j, j < k → zs[j]? = ys[j]?
theorem Alike.all {zs ys : List (Int × Int)} {k : Nat} (h : Alike zs ys k) (h1 : zs.length ≤ k) (h2 : ys.length ≤ k) : zs = ys := List.ext_getElem? fun j => by
  rcases Nat.lt_or_ge j k with hj | hj
  · exact h j hj
  · rw [List.getElem?_eq_none (by omega), List.getElem?_eq_none (by omega)]
theorem Alike.step {zs ys : List (Int × Int)} {k : Nat} (h : Alike zs ys k) (e : zs[k]? = ys[k]?) : Alike zs ys (k + 1) := fun j hj => by
  rcases Nat.lt_or_ge j k with h' | h'
  · exact h j h'
  · obtain rfl : j = k := by omega
    exact e


end Go.Proofs.Ytbpaihbpaeoljaa
