/-
  The texts of terms with signs: plain laws.
  No condition.
-/
import Derived.Test.YtnikogholldcmaaDoorProg
import Derived.Test.YtnikogholldcmaaDoorMem
import Derived.Test.YtnikogholldcmaaDoorNumM
namespace Go.Proofs.YtnikogholldcmaaDoor
open Go.Lib
set_option linter.unusedVariables false

def mkS (s : Int) : List UInt8 := if s < 0 then [32, 45] else [32, 43]
/-- The terms behind the first one. -/
def stL : List (Int × Int) → List UInt8
  | [] => []
  | z :: r => mkS z.1 ++ itoa z.2 ++ stL r
/-- The text of terms with signs. -/
def sgL : List (Int × Int) → List UInt8
  | [] => []
  | z :: r => itoa z.2 ++ stL r
theorem stL_app : ∀ (r s : List (Int × Int)), stL (r ++ s) = stL r ++ stL s
  | [], s => rfl
  | z :: r, s => by
    show mkS z.1 ++ itoa z.2 ++ stL (r ++ s) = mkS z.1 ++ itoa z.2 ++ stL r ++ stL s
    rw [stL_app r s, List.append_assoc (mkS z.1 ++ itoa z.2)]
theorem stL_one (z : Int × Int) : stL [z] = mkS z.1 ++ itoa z.2 := by show mkS z.1 ++ itoa z.2 ++ [] = _; rw [List.append_nil]
/-- The text so far: k terms. -/
def sfL (zs : List (Int × Int)) (k : Nat) : List UInt8 := itoa (zs.headD (0, 0)).2 ++ stL (zs.tail.take (k - 1))
theorem sfL_one (zs : List (Int × Int)) : sfL zs 1 = itoa (zs.headD (0, 0)).2 := by unfold sfL; simp [stL]
theorem sfL_step {zs : List (Int × Int)} {k : Nat} {z : Int × Int} (hk : 1 ≤ k) (hz : zs[k]? = some z) : sfL zs (k + 1) = sfL zs k ++ (mkS z.1 ++ itoa z.2) := by
  have hz' : zs.tail[k - 1]? = some z := by rw [List.getElem?_tail, show k - 1 + 1 = k by omega]; exact hz
  have ht : zs.tail.take (k + 1 - 1) = zs.tail.take (k - 1) ++ [z] := by
    rw [show k + 1 - 1 = k - 1 + 1 by omega, List.take_add_one, hz']; rfl
  unfold sfL
  rw [ht, stL_app, stL_one, List.append_assoc (itoa _)]
theorem sfL_all {zs : List (Int × Int)} {k : Nat} (hk : 1 ≤ k) (hl : zs.length = k) : sgL zs = sfL zs k := by
  match zs, hl with
  | z :: r, hl =>
    unfold sfL
    rw [List.take_of_length_le (by simp at hl; simp; omega)]
    rfl
  | [], hl => simp at hl; omega
end Go.Proofs.YtnikogholldcmaaDoor
