/-
  The walks of the laws FnExactConstants, FnExactCodeName and FnExactKindName: each returns true.
  No condition but that the integer is an int64.
-/
import Derived.Test.YtbchokafjnehoaaProg
import Derived.Test.YtbchokafjnehoaaMem
import Derived.Test.YtbchokafjnehoaaBasic
import Derived.Handy
namespace Go.Proofs.Ytbchokafjnehoaa
open Go.RowKit
set_option linter.unusedVariables false

theorem fnExactConstants_walk (w : World) : Calls Try.prog 3 #[] w fun e w' => e = .returned (.bool true) ∧ Below w.heap.size w w' := by
  go_enter Try.func3, Try.ntmps3
  go_wp2
  go_ret
  exact ⟨rfl, by go_grown⟩

def codeName (a : Int) : ByteArray :=
  if a = 0 then ⟨#[111, 107]⟩ else if a = 1 then ⟨#[105, 110, 118, 97, 108, 105, 100]⟩ else if a = 2 then ⟨#[114, 97, 110, 103, 101]⟩ else
  if a = 3 then ⟨#[110, 111, 116, 45, 102, 111, 117, 110, 100]⟩ else if a = 4 then ⟨#[101, 120, 105, 115, 116, 115]⟩ else if a = 5 then ⟨#[102, 117, 108, 108]⟩ else
  if a = 6 then ⟨#[115, 116, 97, 116, 101]⟩ else if a = 7 then ⟨#[115, 121, 110, 116, 97, 120]⟩ else if a = 8 then ⟨#[102, 111, 114, 109, 97, 116]⟩ else
  if a = 9 then ⟨#[99, 108, 97, 115, 104]⟩ else if a = 10 then ⟨#[117, 110, 100, 101, 99, 105, 100, 101, 100]⟩ else ⟨#[]⟩

set_option maxHeartbeats 4000000 in
theorem impl_codeName (a : Int) (w : World) : Calls Try.prog 15 #[.int .i64 a] w fun e w' => e = .returned (.string (codeName a)) ∧ Below w.heap.size w w' := by
  by_cases ho : a < 0 ∨ 10 < a
  · have hc : codeName a = ⟨#[]⟩ := by unfold codeName; repeat (rw [if_neg (by omega)])
    have hi : inB a 0 10 = false := inB_f ho
    rw [hc]; clear hc ho
    go_enter Try.func15, Try.ntmps15
    go_wp2_with (first | (go_at_call 42; go_in) | (go_at_call 41; refine (within_any _ _ _ _).mono ?_; rintro e w1 ⟨rfl, rfl⟩))
    go_ret
    exact ⟨rfl, by go_grown⟩
  · rcases (by omega : a = 0 ∨ a = 1 ∨ a = 2 ∨ a = 3 ∨ a = 4 ∨ a = 5 ∨ a = 6 ∨ a = 7 ∨ a = 8 ∨ a = 9 ∨ a = 10) with rfl | rfl | rfl | rfl | rfl | rfl | rfl | rfl | rfl | rfl | rfl
    all_goals
      clear ho
      go_enter Try.func15, Try.ntmps15
      go_wp2
      go_ret
      exact ⟨rfl, by go_grown⟩
set_option maxHeartbeats 4000000 in
theorem spec_codeName (a : Int) (w : World) : Calls Try.prog 14 #[.int .i64 a] w fun e w' => e = .returned (.string (codeName a)) ∧ Below w.heap.size w w' := by
  by_cases ho : a < 0 ∨ 10 < a
  · have hc : codeName a = ⟨#[]⟩ := by unfold codeName; repeat (rw [if_neg (by omega)])
    have hi : inB a 0 10 = false := inB_f ho
    rw [hc]; clear hc ho
    go_enter Try.func14, Try.ntmps14
    go_wp2_with (first | (go_at_call 40; refine (l00In_any _ _ _ _).mono ?_; rintro e w1 ⟨rfl, rfl⟩))
    go_ret
    exact ⟨rfl, by go_grown⟩
  · rcases (by omega : a = 0 ∨ a = 1 ∨ a = 2 ∨ a = 3 ∨ a = 4 ∨ a = 5 ∨ a = 6 ∨ a = 7 ∨ a = 8 ∨ a = 9 ∨ a = 10) with rfl | rfl | rfl | rfl | rfl | rfl | rfl | rfl | rfl | rfl | rfl
    all_goals
      clear ho
      go_enter Try.func14, Try.ntmps14
      go_wp2
      go_ret
      exact ⟨rfl, by go_grown⟩
theorem fnExactCodeName_walk (a : Int) (h1 : -9223372036854775808 ≤ a) (h2 : a ≤ 9223372036854775807) (w : World) : Calls Try.prog 4 #[.int .i64 a] w fun e w' => e = .returned (.bool true) ∧ Below w.heap.size w w' := by
  go_enter Try.func4, Try.ntmps4
  go_wp2_with (first | (go_at_call 14; refine (spec_codeName a _).mono ?_; rintro e w1 ⟨rfl, hb1⟩) | (go_at_call 15; refine (impl_codeName a _).mono ?_; rintro e w2 ⟨rfl, hb2⟩))
  go_ret
  exact ⟨rfl, hb1.trans (hb2.mono hb1.size)⟩

def kindName (a : Int) : ByteArray :=
  if a = 1 then ⟨#[110, 101, 97, 114, 101, 115, 116]⟩ else if a = 2 then ⟨#[101, 118, 101, 110]⟩ else if a = 3 then ⟨#[111, 100, 100]⟩ else if a = 4 then ⟨#[110, 101, 103, 97, 116, 105, 118, 101]⟩ else ⟨#[]⟩
theorem isKind_any (a : Int) (w : World) : Calls Try.prog 44 #[.int .i64 a] w fun e w' => e = .returned (.bool (inB a 1 4)) ∧ w = w' := by
  go_enter Try.func44, Try.ntmps44
  go_wp2_with (first | (go_at_call 41; refine (within_any _ _ _ _).mono ?_; rintro e w1 ⟨rfl, rfl⟩))
  go_ret
  exact ⟨rfl, rfl⟩
theorem l04Kind_any (a : Int) (w : World) : Calls Try.prog 43 #[.int .i64 a] w fun e w' => e = .returned (.bool (inB a 1 4)) ∧ w = w' := by
  go_enter Try.func43, Try.ntmps43
  go_wp2_with (first | (go_at_call 40; refine (l00In_any _ _ _ _).mono ?_; rintro e w1 ⟨rfl, rfl⟩))
  go_ret
  exact ⟨rfl, rfl⟩
theorem impl_kindName (a : Int) (w : World) : Calls Try.prog 17 #[.int .i64 a] w fun e w' => e = .returned (.string (kindName a)) ∧ Below w.heap.size w w' := by
  by_cases ho : a < 1 ∨ 4 < a
  · have hc : kindName a = ⟨#[]⟩ := by unfold kindName; repeat (rw [if_neg (by omega)])
    have hi : inB a 1 4 = false := inB_f ho
    rw [hc]; clear hc ho
    go_enter Try.func17, Try.ntmps17
    go_wp2_with (first | (go_at_call 44; refine (isKind_any _ _).mono ?_; rintro e w1 ⟨rfl, rfl⟩))
    go_ret
    exact ⟨rfl, by go_grown⟩
  · rcases (by omega : a = 1 ∨ a = 2 ∨ a = 3 ∨ a = 4) with rfl | rfl | rfl | rfl
    all_goals
      clear ho
      go_enter Try.func17, Try.ntmps17
      go_wp2
      go_ret
      exact ⟨rfl, by go_grown⟩
theorem spec_kindName (a : Int) (w : World) : Calls Try.prog 16 #[.int .i64 a] w fun e w' => e = .returned (.string (kindName a)) ∧ Below w.heap.size w w' := by
  by_cases ho : a < 1 ∨ 4 < a
  · have hc : kindName a = ⟨#[]⟩ := by unfold kindName; repeat (rw [if_neg (by omega)])
    have hi : inB a 1 4 = false := inB_f ho
    rw [hc]; clear hc ho
    go_enter Try.func16, Try.ntmps16
    go_wp2_with (first | (go_at_call 43; refine (l04Kind_any _ _).mono ?_; rintro e w1 ⟨rfl, rfl⟩))
    go_ret
    exact ⟨rfl, by go_grown⟩
  · rcases (by omega : a = 1 ∨ a = 2 ∨ a = 3 ∨ a = 4) with rfl | rfl | rfl | rfl
    all_goals
      clear ho
      go_enter Try.func16, Try.ntmps16
      go_wp2
      go_ret
      exact ⟨rfl, by go_grown⟩
theorem fnExactKindName_walk (a : Int) (h1 : -9223372036854775808 ≤ a) (h2 : a ≤ 9223372036854775807) (w : World) : Calls Try.prog 5 #[.int .i64 a] w fun e w' => e = .returned (.bool true) ∧ Below w.heap.size w w' := by
  go_enter Try.func5, Try.ntmps5
  go_wp2_with (first | (go_at_call 16; refine (spec_kindName a _).mono ?_; rintro e w1 ⟨rfl, hb1⟩) | (go_at_call 17; refine (impl_kindName a _).mono ?_; rintro e w2 ⟨rfl, hb2⟩))
  go_ret
  exact ⟨rfl, hb1.trans (hb2.mono hb1.size)⟩
end Go.Proofs.Ytbchokafjnehoaa
