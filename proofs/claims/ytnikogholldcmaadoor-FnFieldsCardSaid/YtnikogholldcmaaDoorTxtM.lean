/-
  The texts of terms: plain laws.
  No condition.
-/
import Derived.Test.YtnikogholldcmaaDoorProg
import Derived.Test.YtnikogholldcmaaDoorMem
import Derived.Test.YtnikogholldcmaaDoorNumM
import Derived.Lib.Join
import Derived.Lib.ItoaLen
namespace Go.Proofs.YtnikogholldcmaaDoor
open Go.Lib
set_option linter.unusedVariables false

/-- The terms behind the second one. -/
def tlL : List Int → List UInt8
  | [] => []
  | n :: r => [44, 32] ++ itoa n ++ tlL r
/-- The terms behind the first one. -/
def bodL : List Int → List UInt8
  | [] => []
  | n :: r => [59, 32] ++ itoa n ++ tlL r
/-- The text of terms. -/
def txL : List Int → List UInt8
  | [] => []
  | z :: r => 91 :: (itoa z ++ bodL r) ++ [93]
theorem tlL_app : ∀ (r s : List Int), tlL (r ++ s) = tlL r ++ tlL s
  | [], s => rfl
  | n :: r, s => by
    show [44, 32] ++ itoa n ++ tlL (r ++ s) = [44, 32] ++ itoa n ++ tlL r ++ tlL s
    rw [tlL_app r s, List.append_assoc ([44, 32] ++ itoa n)]
theorem tlL_one (z : Int) : tlL [z] = [44, 32] ++ itoa z := by show [44, 32] ++ itoa z ++ [] = _; rw [List.append_nil]
theorem bodL_one (z : Int) : bodL [z] = [59, 32] ++ itoa z := by show [59, 32] ++ itoa z ++ [] = _; rw [List.append_nil]
theorem bodL_app (y : Int) (r s : List Int) : bodL (y :: r ++ s) = bodL (y :: r) ++ tlL s := by
  show [59, 32] ++ itoa y ++ tlL (r ++ s) = [59, 32] ++ itoa y ++ tlL r ++ tlL s
  rw [tlL_app, List.append_assoc ([59, 32] ++ itoa y)]
theorem join_cons (x y : List UInt8) (r : List (List UInt8)) (sep : List UInt8) : join (x :: y :: r) sep = x ++ sep ++ join (y :: r) sep := by
  unfold join
  rw [List.intercalate_cons_cons]
theorem join_tl : ∀ (r : List Int) (y : Int), join ((y :: r).map itoa) [44, 32] = itoa y ++ tlL r
  | [], y => by unfold join; simp [tlL]
  | z :: r, y => by
    rw [List.map_cons, List.map_cons, join_cons, ← List.map_cons, join_tl r z]
    show _ = itoa y ++ ([44, 32] ++ itoa z ++ tlL r)
    simp
theorem tlL_len : ∀ (r : List Int), (∀ z ∈ r, Rng z) → (tlL r).length ≤ 23 * r.length
  | [], _ => Nat.le_refl _
  | n :: r, h => by
    have h1 := itoa_length_le n (h n (by simp)).1 (h n (by simp)).2
    have h2 := tlL_len r (fun z hz => h z (by simp [hz]))
    show ([44, 32] ++ itoa n ++ tlL r).length ≤ _
    rw [List.length_append, List.length_append, List.length_cons]
    simp; omega
/-- The text so far: k terms. -/
def pfL (zs : List Int) (k : Nat) : List UInt8 := 91 :: (itoa (zs.headD 0) ++ bodL (zs.tail.take (k - 1)))
theorem pfL_one (zs : List Int) : pfL zs 1 = 91 :: itoa (zs.headD 0) := by unfold pfL; simp [bodL]
theorem pfL_step {zs : List Int} {k : Nat} {z : Int} (hk : 1 ≤ k) (hz : zs[k]? = some z) : pfL zs (k + 1) = pfL zs k ++ (if k = 1 then [59, 32] else [44, 32]) ++ itoa z := by
  have hz' : zs.tail[k - 1]? = some z := by rw [List.getElem?_tail, show k - 1 + 1 = k by omega]; exact hz
  have ht : zs.tail.take (k + 1 - 1) = zs.tail.take (k - 1) ++ [z] := by
    rw [show k + 1 - 1 = k - 1 + 1 by omega, List.take_add_one, hz']; rfl
  unfold pfL
  rw [ht]
  by_cases h1 : k = 1
  · subst h1
    simp [bodL, tlL]
  · rw [if_neg h1]
    have hl : k - 1 ≤ zs.tail.length := by
      rcases Nat.lt_or_ge (k - 1) zs.tail.length with h | h
      · omega
      · rw [List.getElem?_eq_none h] at hz'; cases hz'
    match hm : zs.tail.take (k - 1) with
    | [] =>
      have := congrArg List.length hm
      rw [List.length_take, List.length_nil] at this
      omega
    | y :: r =>
      rw [bodL_app, tlL_one]; simp
theorem pfL_all {zs : List Int} {k : Nat} (hk : 1 ≤ k) (hl : zs.length = k) : txL zs = pfL zs k ++ [93] := by
  match zs, hl with
  | z :: r, hl =>
    unfold pfL
    rw [List.take_of_length_le (by simp at hl; simp; omega)]
    rfl
  | [], hl => simp at hl; omega
end Go.Proofs.YtnikogholldcmaaDoor
