/-
  The laws of signed values: plain laws: the regular terms of a fraction have its value.
  No condition.
-/
import Derived.Test.YtlpglibnjmjjkaaProg
import Derived.Test.YtlpglibnjmjjkaaMem
import Derived.Test.YtlpglibnjmjjkaaFrac
import Derived.Test.YtlpglibnjmjjkaaAllk
import Derived.Test.YtlpglibnjmjjkaaExp
import Derived.Test.YtlpglibnjmjjkaaCvg
import Derived.Test.YtlpglibnjmjjkaaVal
import Derived.Test.YtlpglibnjmjjkaaPthM
import Derived.Test.YtlpglibnjmjjkaaCmn
import Derived.Test.YtlpglibnjmjjkaaVexp
import Derived.Test.YtlpglibnjmjjkaaKnd
import Derived.Test.YtlpglibnjmjjkaaSct
import Derived.Test.YtlpglibnjmjjkaaSvl
namespace Go.Proofs.Ytlpglibnjmjjkaa
open Go.Lib
set_option linter.unusedVariables false

theorem cvg_exp1 {x : Int} {d : Nat} (hd : 0 < d) (h1 : -1000000000 ≤ x) (h2 : x ≤ 1000000000) (h3 : d ≤ 1000000000) (hg : Int.gcd x d = 1) :
    ∃ l, cvgO (expN x d) 1 0 0 1 = some l ∧ l.getLast? = some (x, (d : Int)) := by
  have hm := mod_bd x hd
  have hqm := quo_mul x hd
  have hqb := quo_bd x hd (by omega) h2
  obtain ⟨t, hte⟩ : ∃ t, t = x / (d : Int) := ⟨_, rfl⟩
  rw [← hte] at hqm hqb
  have e1 : t * 1 + 0 = t := by omega
  have e2 : t * 0 + 1 = 1 := by omega
  have hv : vfB (t * 1 + 0) (t * 0 + 1) = true := by rw [e1, e2]; exact vfB_iff.2 ⟨by omega, by omega, hqb.1, hqb.2, Int.gcd_one_right ..⟩
  rw [expN_pos hd, ← hte]
  rcases Nat.eq_zero_or_pos (x % (d : Int)).toNat with he | he
  · have he0 : x % (d : Int) = 0 := by omega
    have hd1 := gcd_one_rem hd hg he0
    subst hd1
    have hxt : x = t := by simp at hqm; omega
    rw [he, expN_zero]
    exact ⟨_, cvgO_cons hv rfl, by rw [e1, e2, hxt]; rfl⟩
  · have hcast : (((x % (d : Int)).toNat : Nat) : Int) = x % (d : Int) := Int.toNat_of_nonneg hm.1
    have hx' : x = d * t + x % (d : Int) := by rw [Int.mul_comm]; omega
    obtain ⟨⟨l, k1, k2, k3⟩, _⟩ := cvg_main (x % (d : Int)).toNat d (t * 1 + 0) (t * 0 + 1) 1 0 x d he (by omega) (by omega) (by omega) (by unfold Sg; omega) (by rw [hcast, e1]; omega) (by rw [e2]; omega) (by omega) h2 (by omega) (gcd_rem hd hg) (by rw [e1, e2]; omega)
    have hl : l ≠ [] := fun e => by subst e; cases k2
    exact ⟨_, cvgO_cons hv k1, by rw [List.getLast?_cons_of_ne_nil hl]; exact k2⟩
theorem trm_exp {x : Int} {d : Nat} (hd : 0 < d) (h1 : -1000000000 ≤ x) (h2 : x ≤ 1000000000) (h3 : d ≤ 1000000000) : trmB (expN x d) = true := by
  have hl := expN_log 30 x d (by omega)
  have hn := List.length_pos_iff.2 (expN_ne (a := x) hd)
  refine trmB_iff.2 ⟨by omega, by omega, fun k y hy => ?_⟩
  have hb := expN_rng d x h1 h2 h3 y (List.mem_of_getElem? hy)
  cases k with
  | zero => simp; omega
  | succ k => have := expN_ge d x hd k y hy; simp; omega
/-- The regular terms of a fraction have its value. -/
theorem exp_val {x y : Int} (hv : vfB x y = true) : valT (expL x y) = (x, y, 0) ∧ trmB (expL x y) = true := by
  obtain ⟨y1, yb, xa, xb, hg⟩ := vfB_iff.1 hv
  obtain ⟨d, rfl⟩ : ∃ d : Nat, y = d := ⟨y.toNat, by omega⟩
  have hd : 0 < d := by omega
  obtain ⟨l, c1, c2⟩ := cvg_exp1 hd xa xb (by omega) hg
  have ht := trm_exp hd xa xb (by omega)
  have hexp : expL x (d : Int) = expN x d := by unfold expL; rw [if_pos hv]; rfl
  have hb : cvgB (expN x d) = true := by unfold cvgB; rw [c1]; rfl
  have hl : cvgL (expN x d) = l := by unfold cvgL; rw [c1]; rfl
  have hla : lastP l = (x, (d : Int)) := by
    rw [List.getLast?_eq_getElem?] at c2
    unfold lastP
    rw [List.getD_eq_getElem?_getD, c2]; rfl
  rw [hexp]
  refine ⟨?_, ht⟩
  unfold valT
  rw [if_pos ht, if_pos hb, hl, hla]
/-- The regular terms of terms with signs have their value. -/
theorem tfs_val {zs : List (Int × Int)} (h : scfC zs = 0) : valT (tfsL zs) = ((vlsT zs).1, (vlsT zs).2.1, 0) := by
  rw [show tfsL zs = expL (vlsT zs).1 (vlsT zs).2.1 from if_pos h]
  exact (exp_val (vls_ok h).1).1
end Go.Proofs.Ytlpglibnjmjjkaa
