/-
  The bound on the bytes from which something is drawn: contracts.
  No condition.
-/
import Derived.Test.YtnikogholldcmaaDoorProg
import Derived.Test.YtnikogholldcmaaDoorMem
import Derived.Test.YtnikogholldcmaaDoorBasic
import Derived.Handy
namespace Go.Proofs.YtnikogholldcmaaDoor
open Go.RowKit
set_option linter.unusedVariables false
theorem long_any (A B : Option Addr) (n cap m cap' : Nat) (w : World) (hn : n ≤ 9223372036854775807) (hm : m ≤ 9223372036854775807) : Calls Tryd.prog 41 #[.slice A n cap, .slice B m cap'] w fun e w' => e = .returned (.bool (decide ((3000 : Int) < n) || decide ((3000 : Int) < m))) ∧ w = w' := by
  by_cases h : (3000 : Int) < n
  · rw [decide_eq_true h]
    go_enter Tryd.func41, Tryd.ntmps41
    go_wp2_with fail
    go_ret
    exact ⟨rfl, rfl⟩
  · rw [decide_eq_false h]
    have h' : decide ((3000 : Int) < n) = false := decide_eq_false h
    by_cases k : (3000 : Int) < m
    · rw [decide_eq_true k]
      go_enter Tryd.func41, Tryd.ntmps41
      go_wp2_with fail
      go_ret
      exact ⟨rfl, rfl⟩
    · rw [decide_eq_false k]
      have k' : decide ((3000 : Int) < m) = false := decide_eq_false k
      go_enter Tryd.func41, Tryd.ntmps41
      go_wp2_with fail
      go_ret
      exact ⟨rfl, rfl⟩
end Go.Proofs.YtnikogholldcmaaDoor
