/-
  The short terms of a fraction: contracts of the program's and of the reference's functions; the walk of the law FnExactExpandFraction.
  No condition but those of the law's own text.
-/
import Derived.Test.YtnikogholldcmaaDoorProg
import Derived.Test.YtnikogholldcmaaDoorMem
import Derived.Test.YtnikogholldcmaaDoorBasic
import Derived.Test.YtnikogholldcmaaDoorFrac
import Derived.Test.YtnikogholldcmaaDoorFrac2
import Derived.Test.YtnikogholldcmaaDoorMarks
import Derived.Test.YtnikogholldcmaaDoorOwn
import Derived.Handy
import Derived.BigQuiet
import Derived.Deep.QuietTactic
import Derived.Deep.AppendLies
namespace Go.Proofs.YtnikogholldcmaaDoor
open Go.RowKit
set_option linter.unusedVariables false
attribute [local go_sem ↓] Go.wp_at_zero Go.wp_at_succ

/-- The short terms of a quotient. -/
def expN (a : Int) (b : Nat) : List Int := if h : b = 0 then [] else (a / (b : Int)) :: expN b (a % (b : Int)).toNat
termination_by b
decreasing_by
  have := Int.emod_lt_of_pos a (show (0 : Int) < b by omega)
  have := Int.emod_nonneg a (show (b : Int) ≠ 0 by omega)
  omega
theorem expN_zero (a : Int) : expN a 0 = [] := by rw [expN]; simp
theorem expN_pos {a : Int} {b : Nat} (h : 0 < b) : expN a b = (a / (b : Int)) :: expN b (a % (b : Int)).toNat := by rw [expN]; simp [show b ≠ 0 by omega]
theorem mod_bd (a : Int) {b : Nat} (h : 0 < b) : 0 ≤ a % (b : Int) ∧ a % (b : Int) < b :=
  ⟨Int.emod_nonneg a (by omega), Int.emod_lt_of_pos a (by omega)⟩
theorem quo_bd (a : Int) {b : Nat} (h : 0 < b) (h1 : -1000000000 ≤ a) (h2 : a ≤ 1000000000) : -1000000000 ≤ a / (b : Int) ∧ a / (b : Int) ≤ 1000000000 := by
  have hb : (0 : Int) < b := by omega
  refine ⟨(Int.le_ediv_iff_mul_le hb).2 ?_, ?_⟩
  · have : (1000000000 : Int) * 1 ≤ 1000000000 * b := Int.mul_le_mul_of_nonneg_left (by omega) (by omega)
    omega
  · rcases Int.lt_or_le a 0 with h' | h'
    · have := Int.ediv_neg_of_neg_of_pos h' hb; omega
    · have := Int.ediv_le_self (b : Int) h'; omega
theorem quo_mul (a : Int) {b : Nat} (h : 0 < b) : a - a / (b : Int) * b = a % (b : Int) := by
  have := Int.mul_ediv_add_emod a b
  rw [Int.mul_comm] at this; omega
theorem expN_len (b : Nat) : ∀ a, (expN a b).length ≤ b := by
  induction b using Nat.strongRecOn with
  | ind b ih =>
    intro a
    rcases Nat.eq_zero_or_pos b with h | h
    · subst h; rw [expN_zero]; exact Nat.le_refl _
    · rw [expN_pos h, List.length_cons]
      have := mod_bd a h
      have := ih (a % (b : Int)).toNat (by omega) b
      omega
theorem expN_rng (b : Nat) : ∀ a, -1000000000 ≤ a → a ≤ 1000000000 → b ≤ 1000000000 → ∀ z ∈ expN a b, -1000000000 ≤ z ∧ z ≤ 1000000000 := by
  induction b using Nat.strongRecOn with
  | ind b ih =>
    intro a h1 h2 h3 z hz
    rcases Nat.eq_zero_or_pos b with h | h
    · subst h; rw [expN_zero] at hz; cases hz
    · rw [expN_pos h, List.mem_cons] at hz
      have hm := mod_bd a h
      rcases hz with rfl | hz
      · exact quo_bd a h h1 h2
      · exact ih _ (by omega) b (by omega) (by omega) (by omega) z hz


/-- The short terms of a plain fraction, and the code. -/
def expL (p q : Int) : List Int := if vfB p q = true then expN p q.toNat else []
def expC (p q : Int) : Int := if vfB p q = true then 0 else 1
theorem expL_len (p q : Int) : (expL p q).length ≤ 1000000000 := by
  unfold expL
  split
  · rename_i h
    have := vfB_iff.1 h
    have := expN_len q.toNat p
    omega
  · exact Nat.zero_le _
theorem expL_rng (p q : Int) : ∀ z ∈ expL p q, Rng z := by
  intro z hz
  unfold expL at hz
  split at hz
  · rename_i h
    have := vfB_iff.1 h
    have := expN_rng q.toNat p (by omega) (by omega) (by omega) z hz
    unfold Rng; omega
  · cases hz

end Go.Proofs.YtnikogholldcmaaDoor
