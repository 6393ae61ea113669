/-
  The convergents of the short terms of a fraction, and those of its other form: the last one is the fraction; two that follow each other are neighbours: plain laws.
  No condition.
-/
import Derived.Test.YtlpglibnjmjjkaaProg
import Derived.Test.YtlpglibnjmjjkaaMem
import Derived.Test.YtlpglibnjmjjkaaFrac
import Derived.Test.YtlpglibnjmjjkaaExp
import Derived.Test.YtlpglibnjmjjkaaCvg
import Derived.Test.YtlpglibnjmjjkaaPthM
namespace Go.Proofs.Ytlpglibnjmjjkaa
set_option linter.unusedVariables false

theorem gcd_det {a b u v : Int} (h : a * v - u * b = 1 ∨ a * v - u * b = -1) : Int.gcd a b = 1 := by
  obtain ⟨k, hk⟩ : (Int.gcd a b : Int) ∣ a := Int.gcd_dvd_left ..
  obtain ⟨m, hm⟩ : (Int.gcd a b : Int) ∣ b := Int.gcd_dvd_right ..
  generalize Int.gcd a b = g at *
  have e : a * v - u * b = g * (k * v - u * m) := by rw [hk, hm]; grind
  have h1 : (g : Int) ∣ 1 := by
    rcases h with h | h
    · exact ⟨k * v - u * m, by rw [← e, h]⟩
    · exact ⟨-(k * v - u * m), by rw [Int.mul_neg, ← e, h]; rfl⟩
  have := Int.eq_one_of_dvd_one (by omega) h1
  omega
/-- Neighbours that follow each other. -/
def Nbs : Int × Int → List (Int × Int) → Prop
  | _, [] => True
  | u, v :: r => (u.1 * v.2 - v.1 * u.2 = 1 ∨ u.1 * v.2 - v.1 * u.2 = -1) ∧ Nbs v r
/-- The signs of two numerators that follow each other. -/
def Sg (p p0 : Int) : Prop := (0 ≤ p ∧ 0 ≤ p0) ∨ (p ≤ 0 ∧ p0 ≤ 0) ∨ (p ≤ -1 ∧ p0 = 1)
theorem sg_step {p p0 s : Int} (h : Sg p p0) (hs : 1 ≤ s) : (0 ≤ s * p + p0 ∧ 0 ≤ p) ∨ (s * p + p0 ≤ 0 ∧ p ≤ 0) := by
  rcases h with ⟨h1, h2⟩ | ⟨h1, h2⟩ | ⟨h1, h2⟩
  · have := Int.mul_nonneg (show 0 ≤ s by omega) h1
    exact .inl ⟨by omega, h1⟩
  · have := Int.mul_nonneg (show 0 ≤ s by omega) (show 0 ≤ -p by omega)
    rw [Int.mul_neg] at this
    exact .inr ⟨by omega, h1⟩
  · have := Int.mul_le_mul hs (show 1 ≤ -p by omega) (by omega) (by omega)
    rw [Int.mul_neg] at this
    exact .inr ⟨by omega, by omega⟩
theorem det_next (p q p0 q0 s : Int) : (s * p + p0) * q - p * (s * q + q0) = -(p * q0 - p0 * q) := by grind
theorem part_le {x u p : Int} {b r : Int} (hb : 1 ≤ b) (hr : 0 ≤ r) (h : x = b * u + r * p) (hs : (0 ≤ u ∧ 0 ≤ p) ∨ (u ≤ 0 ∧ p ≤ 0)) (h1 : -1000000000 ≤ x) (h2 : x ≤ 1000000000) : -1000000000 ≤ u ∧ u ≤ 1000000000 := by
  rcases hs with ⟨hu, hp⟩ | ⟨hu, hp⟩
  · have a1 := Int.mul_nonneg hr hp
    have a2 := Int.mul_le_mul_of_nonneg_right hb hu
    omega
  · have a1 := Int.mul_nonneg hr (show 0 ≤ -p by omega)
    have a2 := Int.mul_le_mul_of_nonneg_right hb (show 0 ≤ -u by omega)
    rw [Int.mul_neg] at a1 a2
    rw [Int.mul_neg] at a2
    omega
theorem cvgO_cons {t p q p0 q0 : Int} {r : List Int} {l : List (Int × Int)} (hv : vfB (t * p + p0) (t * q + q0) = true) (h : cvgO r (t * p + p0) (t * q + q0) p q = some l) : cvgO (t :: r) p q p0 q0 = some ((t * p + p0, t * q + q0) :: l) := by
  rw [cvgO, if_pos hv, h]; rfl
theorem gcd_one_rem {a : Int} {b : Nat} (hb : 0 < b) (hg : Int.gcd a b = 1) (h : a % (b : Int) = 0) : b = 1 := by
  have hd : (b : Int) ∣ a := Int.dvd_of_emod_eq_zero h
  have : Int.gcd a b = b := by rw [Int.gcd_comm, Int.gcd_eq_natAbs_left hd]; rfl
  omega
theorem gcd_rem {a : Int} {b : Nat} (hb : 0 < b) (hg : Int.gcd a b = 1) : Int.gcd b ((a % (b : Int)).toNat : Int) = 1 := by
  rw [Int.toNat_of_nonneg (mod_bd a hb).1, ← hg, Int.gcd_comm a, Int.emod_def, Int.gcd_sub_mul_left_right]

set_option maxHeartbeats 800000 in
theorem cvg_main (b : Nat) : ∀ (a p q p0 q0 x d : Int), 0 < b → (b : Int) < a → 1 ≤ q → 0 ≤ q0 → Sg p p0 → x = a * p + b * p0 → d = a * q + b * q0 → -1000000000 ≤ x → x ≤ 1000000000 → d ≤ 1000000000 →
    Int.gcd a b = 1 → (p * q0 - p0 * q = 1 ∨ p * q0 - p0 * q = -1) →
    (∃ l, cvgO (expN a b) p q p0 q0 = some l ∧ l.getLast? = some (x, d) ∧ Nbs (p, q) l) ∧ (∃ l, cvgO (decL (expN a b) ++ [1]) p q p0 q0 = some l ∧ l.getLast? = some (x, d)) := by
  induction b using Nat.strongRecOn with
  | ind b ih =>
    intro a p q p0 q0 x d hb hab hq hq0 hsg hx hd x1 x2 d2 hg hdet
    have hm := mod_bd a hb
    have hqm := quo_mul a hb
    have ht : 1 ≤ a / (b : Int) := by
      rcases Int.lt_or_le (a / (b : Int)) 1 with h | h
      · exfalso
        have : a / (b : Int) * b ≤ 0 * b := Int.mul_le_mul_of_nonneg_right (by omega) (by omega)
        omega
      · exact h
    obtain ⟨t, hte⟩ : ∃ t, t = a / (b : Int) := ⟨_, rfl⟩
    rw [← hte] at hqm ht
    have ha : a = t * b + a % (b : Int) := by omega
    have hx' : x = b * (t * p + p0) + (a % (b : Int)) * p := by rw [hx]; generalize a % (b : Int) = r at *; subst ha; grind
    have hd' : d = b * (t * q + q0) + (a % (b : Int)) * q := by rw [hd]; generalize a % (b : Int) = r at *; subst ha; grind
    have hsn := sg_step hsg ht
    have hbd := part_le (show (1 : Int) ≤ b by omega) hm.1 hx' hsn x1 x2
    have hq' : 1 ≤ t * q := by have := Int.mul_le_mul ht hq (by omega) (by omega); omega
    have hqd : t * q + q0 ≤ d := by
      have a1 := Int.mul_nonneg hm.1 (show 0 ≤ q by omega)
      have a2 := Int.mul_le_mul_of_nonneg_right (show (1 : Int) ≤ b by omega) (show 0 ≤ t * q + q0 by omega)
      omega
    have hdn := det_next p q p0 q0 t
    have hdet' : (t * p + p0) * q - p * (t * q + q0) = 1 ∨ (t * p + p0) * q - p * (t * q + q0) = -1 := by omega
    have hv : vfB (t * p + p0) (t * q + q0) = true := vfB_iff.2 ⟨by omega, by omega, hbd.1, hbd.2, gcd_det hdet'⟩
    have hnb : p * (t * q + q0) - (t * p + p0) * q = 1 ∨ p * (t * q + q0) - (t * p + p0) * q = -1 := by omega
    rw [expN_pos hb, ← hte]
    rcases Nat.eq_zero_or_pos (a % (b : Int)).toNat with he | he
    · have he0 : a % (b : Int) = 0 := by omega
      have hb1 := gcd_one_rem hb hg he0
      subst hb1
      rw [he, expN_zero]
      rw [he0] at hx' hd' ha
      have hx2 : x = t * p + p0 := by simp at hx'; exact hx'
      have hd2 : d = t * q + q0 := by simp at hd'; exact hd'
      refine ⟨⟨[(t * p + p0, t * q + q0)], cvgO_cons hv rfl, by rw [hx2, hd2]; rfl, hnb, trivial⟩, ?_⟩
      have ht2 : 1 ≤ t - 1 := by simp at ha hab; omega
      have e1 : (t - 1) * p + p0 = x - p := by rw [hx2, Int.sub_mul]; omega
      have e2 : (t - 1) * q + q0 = d - q := by rw [hd2, Int.sub_mul]; omega
      have hsn2 := sg_step hsg ht2
      have hq2 : 1 ≤ (t - 1) * q := by have := Int.mul_le_mul ht2 hq (by omega) (by omega); omega
      have hdn2 := det_next p q p0 q0 (t - 1)
      have hv2 : vfB ((t - 1) * p + p0) ((t - 1) * q + q0) = true := vfB_iff.2 ⟨by omega, by omega, by omega, by omega, gcd_det (u := p) (v := q) (by omega)⟩
      have e3 : 1 * ((t - 1) * p + p0) + p = x := by omega
      have e4 : 1 * ((t - 1) * q + q0) + q = d := by omega
      have hv3 : vfB (1 * ((t - 1) * p + p0) + p) (1 * ((t - 1) * q + q0) + q) = true := by rw [e3, e4, hx2, hd2]; exact hv
      refine ⟨[((t - 1) * p + p0, (t - 1) * q + q0), (1 * ((t - 1) * p + p0) + p, 1 * ((t - 1) * q + q0) + q)], cvgO_cons hv2 (cvgO_cons hv3 rfl), ?_⟩
      rw [e3, e4]; rfl
    · have hcast : (((a % (b : Int)).toNat : Nat) : Int) = a % (b : Int) := Int.toNat_of_nonneg hm.1
      obtain ⟨⟨l, h1, h2, h3⟩, ⟨l', h4, h5⟩⟩ := ih (a % (b : Int)).toNat (by omega) b (t * p + p0) (t * q + q0) p q x d he (by omega) (by omega) (by omega) (by unfold Sg; omega) (by rw [hcast]; exact hx') (by rw [hcast]; exact hd') x1 x2 d2 (gcd_rem hb hg) hdet'
      have hl : l ≠ [] := fun e => by subst e; cases h2
      have hl' : l' ≠ [] := fun e => by subst e; cases h5
      refine ⟨⟨_, cvgO_cons hv h1, by rw [List.getLast?_cons_of_ne_nil hl]; exact h2, hnb, h3⟩, ?_⟩
      rw [decL_cons (expN_ne he), List.cons_append]
      exact ⟨_, cvgO_cons hv h4, by rw [List.getLast?_cons_of_ne_nil hl']; exact h5⟩

/-- The convergents of the short terms of a fraction. -/
theorem cvg_exp {x : Int} {d : Nat} (hd : 0 < d) (h1 : -1000000000 < x) (h2 : x ≤ 1000000000) (h3 : d ≤ 1000000000) (hg : Int.gcd x d = 1) :
    (∃ v r, cvgO (expN x d) 1 0 0 1 = some (v :: r) ∧ (v :: r).getLast? = some (x, (d : Int)) ∧ Nbs v r) ∧ (∃ l, cvgO (decL (expN x d) ++ [1]) 1 0 0 1 = some l ∧ l.getLast? = some (x, (d : Int))) := by
  have hm := mod_bd x hd
  have hqm := quo_mul x hd
  have hqb := quo_bd x hd (by omega) h2
  obtain ⟨t, hte⟩ : ∃ t, t = x / (d : Int) := ⟨_, rfl⟩
  rw [← hte] at hqm hqb
  have e1 : t * 1 + 0 = t := by omega
  have e2 : t * 0 + 1 = 1 := by omega
  have hv : vfB (t * 1 + 0) (t * 0 + 1) = true := by rw [e1, e2]; exact vfB_iff.2 ⟨by omega, by omega, hqb.1, hqb.2, Int.gcd_one_right ..⟩
  rw [expN_pos hd, ← hte]
  rcases Nat.eq_zero_or_pos (x % (d : Int)).toNat with he | he
  · have he0 : x % (d : Int) = 0 := by omega
    have hd1 := gcd_one_rem hd hg he0
    subst hd1
    have hxt : x = t := by simp at hqm; omega
    rw [he, expN_zero]
    refine ⟨⟨_, _, cvgO_cons hv rfl, by rw [e1, e2, hxt]; rfl, trivial⟩, ?_⟩
    have f1 : (t - 1) * 1 + 0 = t - 1 := by omega
    have f2 : (t - 1) * 0 + 1 = 1 := by omega
    have hv2 : vfB ((t - 1) * 1 + 0) ((t - 1) * 0 + 1) = true := by rw [f1, f2]; exact vfB_iff.2 ⟨by omega, by omega, by omega, by omega, Int.gcd_one_right ..⟩
    have g1 : 1 * ((t - 1) * 1 + 0) + 1 = t := by omega
    have g2 : 1 * ((t - 1) * 0 + 1) + 0 = 1 := by omega
    have hv3 : vfB (1 * ((t - 1) * 1 + 0) + 1) (1 * ((t - 1) * 0 + 1) + 0) = true := by rw [g1, g2]; exact vfB_iff.2 ⟨by omega, by omega, by omega, by omega, Int.gcd_one_right ..⟩
    refine ⟨_, cvgO_cons hv2 (cvgO_cons hv3 rfl), ?_⟩
    rw [g1, g2, hxt]; rfl
  · have hcast : (((x % (d : Int)).toNat : Nat) : Int) = x % (d : Int) := Int.toNat_of_nonneg hm.1
    have hx' : x = d * t + x % (d : Int) := by rw [Int.mul_comm]; omega
    obtain ⟨⟨l, k1, k2, k3⟩, ⟨l', k4, k5⟩⟩ := cvg_main (x % (d : Int)).toNat d (t * 1 + 0) (t * 0 + 1) 1 0 x d he (by omega) (by omega) (by omega) (by unfold Sg; omega) (by rw [hcast, e1]; omega) (by rw [e2]; omega) (by omega) h2 (by omega) (gcd_rem hd hg) (by rw [e1, e2]; omega)
    have hl : l ≠ [] := fun e => by subst e; cases k2
    have hl' : l' ≠ [] := fun e => by subst e; cases k5
    refine ⟨⟨_, _, cvgO_cons hv k1, by rw [List.getLast?_cons_of_ne_nil hl]; exact k2, k3⟩, ?_⟩
    rw [decL_cons (expN_ne he), List.cons_append]
    exact ⟨_, cvgO_cons hv k4, by rw [List.getLast?_cons_of_ne_nil hl']; exact k5⟩
end Go.Proofs.Ytlpglibnjmjjkaa
