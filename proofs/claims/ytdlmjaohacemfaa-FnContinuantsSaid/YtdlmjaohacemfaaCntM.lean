/-
  Continuants: they do not depend on the direction, and they are numerators and denominators: plain laws.
  No condition.
-/
import Derived.Test.YtdlmjaohacemfaaProg
import Derived.Test.YtdlmjaohacemfaaMem
import Derived.Test.YtdlmjaohacemfaaAllk
import Derived.Test.YtdlmjaohacemfaaFrac
import Derived.Test.YtdlmjaohacemfaaCont
import Derived.Test.YtdlmjaohacemfaaCvg
import Derived.Test.YtdlmjaohacemfaaVal
namespace Go.Proofs.Ytdlmjaohacemfaa
set_option linter.unusedVariables false

/-- Two continuants that follow each other. -/
def cnF (x y : Int) : List Int → Int × Int
  | [] => (x, y)
  | z :: r => cnF (z * x + y) x r
theorem cnF_lin : ∀ (r : List Int) (x y : Int), cnF x y r = (x * (cnF 1 0 r).1 + y * (cnF 0 1 r).1, x * (cnF 1 0 r).2 + y * (cnF 0 1 r).2)
  | [], x, y => by simp [cnF]
  | z :: r, x, y => by
    have h1 := cnF_lin r (z * x + y) x
    have h2 := cnF_lin r (z * 1 + 0) 1
    have h3 := cnF_lin r (z * 0 + 1) 0
    rw [cnF, cnF, cnF, h1, h2, h3]
    apply Prod.ext <;> simp only <;> grind
theorem cnF_app : ∀ (r : List Int) (z x y : Int), cnF x y (r ++ [z]) = (z * (cnF x y r).1 + (cnF x y r).2, (cnF x y r).1)
  | [], z, x, y => rfl
  | t :: r, z, x, y => cnF_app r z (t * x + y) x
theorem cnF_rev : ∀ r : List Int, cnF 1 0 r.reverse = ((cnF 1 0 r).1, (cnF 0 1 r).1) ∧ cnF 0 1 r.reverse = ((cnF 1 0 r).2, (cnF 0 1 r).2)
  | [] => ⟨rfl, rfl⟩
  | z :: r => by
    obtain ⟨h1, h2⟩ := cnF_rev r
    have k1 : cnF 1 0 (z :: r) = (z * (cnF 1 0 r).1 + (cnF 0 1 r).1, z * (cnF 1 0 r).2 + (cnF 0 1 r).2) := by
      rw [cnF, cnF_lin]; apply Prod.ext <;> simp only <;> grind
    have k2 : cnF 0 1 (z :: r) = cnF 1 0 r := by
      rw [cnF]; simp
    rw [List.reverse_cons, cnF_app, cnF_app, h1, h2, k1, k2]
    exact ⟨rfl, rfl⟩
/-- The bounds of small terms. -/
theorem cnF_bd : ∀ (r : List Int) (x y b : Int), (∀ z ∈ r, 1 ≤ z ∧ z ≤ 60) → 0 ≤ x → 0 ≤ y → x ≤ b → y ≤ b → 0 ≤ (cnF x y r).1 ∧ (cnF x y r).1 ≤ b * 61 ^ r.length
  | [], x, y, b, _, h0, _, h1, _ => by simp [cnF]; omega
  | z :: r, x, y, b, hz, h0, h0', h1, h2 => by
    obtain ⟨z1, z2⟩ := hz z (by simp)
    have m1 : z * x ≤ 60 * x := Int.mul_le_mul_of_nonneg_right z2 h0
    have m0 : 0 ≤ z * x := Int.mul_nonneg (by omega) h0
    have := cnF_bd r (z * x + y) x (b * 61) (fun t ht => hz t (by simp [ht])) (by omega) h0 (by omega) (by omega)
    rw [cnF, List.length_cons, Int.pow_succ]
    refine ⟨this.1, ?_⟩
    have h3 := this.2
    rw [show b * ((61 : Int) ^ r.length * 61) = b * 61 * 61 ^ r.length by grind]
    exact h3
theorem cont_cnF : ∀ (r : List Int) (x y b : Int), (∀ z ∈ r, 1 ≤ z ∧ z ≤ 60) → 0 ≤ x → 0 ≤ y → x ≤ b → y ≤ b → b * 61 ^ r.length ≤ 1000000000000000000 → cont x y r = some (cnF x y r).1
  | [], x, y, b, _, _, _, _, _, _ => rfl
  | z :: r, x, y, b, hz, h0, h0', h1, h2, hb => by
    obtain ⟨z1, z2⟩ := hz z (by simp)
    have m1 : z * x ≤ 60 * x := Int.mul_le_mul_of_nonneg_right z2 h0
    have m0 : 0 ≤ z * x := Int.mul_nonneg (by omega) h0
    rw [List.length_cons, Int.pow_succ, show b * ((61 : Int) ^ r.length * 61) = b * 61 * 61 ^ r.length by grind] at hb
    have hp : (1 : Int) ≤ 61 ^ r.length := by
      have : 0 < (61 : Int) ^ r.length := Int.pow_pos (by omega)
      omega
    have hb1 : b * 61 * 1 ≤ b * 61 * 61 ^ r.length := Int.mul_le_mul_of_nonneg_left hp (by omega)
    rw [cont_goes r (by omega), cont_cnF r (z * x + y) x (b * 61) (fun t ht => hz t (by simp [ht])) (by omega) h0 (by omega) (by omega) hb]
    rfl
/-- The code and the value of a continuant of few small terms. -/
theorem cntR_small {zs : List Int} (hl : zs.length ≤ 8) (hz : ∀ z ∈ zs, 1 ≤ z ∧ z ≤ 60) (hp : allK posE 0 zs = true) : cntR zs = ((cnF 1 0 zs).1, 0) := by
  refine cntR_some (by omega) hp (cont_cnF zs 1 0 1 hz (by omega) (by omega) (by omega) (by omega) ?_)
  have h1 : (61 : Int) ^ zs.length ≤ 61 ^ 8 := by
    have : (61 : Nat) ^ zs.length ≤ 61 ^ 8 := Nat.pow_le_pow_right (by omega) hl
    exact_mod_cast this
  have h2 : (61 : Int) ^ 8 = 191707312997281 := by decide
  omega
theorem cvgO_last : ∀ (r : List Int) (p q p0 q0 : Int) (l : List (Int × Int)), r ≠ [] → cvgO r p q p0 q0 = some l → l.getLast? = some ((cnF p p0 r).1, (cnF q q0 r).1)
  | [], _, _, _, _, _, h, _ => absurd rfl h
  | [t], p, q, p0, q0, l, _, h => by
    rw [cvgO] at h
    split at h
    · simp [cvgO] at h; subst h; simp [cnF]
    · cases h
  | t :: u :: r, p, q, p0, q0, l, _, h => by
    rw [cvgO] at h
    split at h
    · cases hc : cvgO (u :: r) (t * p + p0) (t * q + q0) p q with
      | none => rw [hc] at h; cases h
      | some m =>
        rw [hc] at h
        injection h with h
        subst h
        have := cvgO_last (u :: r) _ _ _ _ m (by simp) hc
        have hm : m ≠ [] := fun e => by subst e; cases this
        rw [List.getLast?_cons_of_ne_nil hm, this]; rfl
    · cases h
end Go.Proofs.Ytdlmjaohacemfaa
