/-
  The laws of fractions: plain laws.
  No condition.
-/
import Derived.Test.YtnikogholldcmaaDoorProg
import Derived.Test.YtnikogholldcmaaDoorMem
import Derived.Test.YtnikogholldcmaaDoorFrac
import Derived.Test.YtnikogholldcmaaDoorFrac2
import Derived.Test.YtnikogholldcmaaDoorNumM
import Derived.Test.YtnikogholldcmaaDoorDec
import Derived.Test.YtnikogholldcmaaDoorFtx
import Derived.Test.YtnikogholldcmaaDoorRdd
import Derived.Test.YtnikogholldcmaaDoorTtx
import Derived.Test.YtnikogholldcmaaDoorSplM
import Derived.Test.YtnikogholldcmaaDoorRsgM
import Derived.Test.YtnikogholldcmaaDoorRfrM
namespace Go.Proofs.YtnikogholldcmaaDoor
open Go.Lib
set_option linter.unusedVariables false

theorem cross_mul {x y num den : Int} (hy : 1 ≤ y) (hg : Int.gcd x y = 1) (h : num * y = x * den) : ∃ k, num = k * x ∧ den = k * y := by
  have hd : y ∣ x * den := ⟨num, by rw [← h, Int.mul_comm]⟩
  have hd2 : y ∣ den := by
    have h1 := Int.dvd_gcd_mul_iff_dvd_mul.2 hd
    rw [Int.gcd_comm, hg] at h1
    simpa using h1
  obtain ⟨k, hk⟩ := hd2
  refine ⟨k, ?_, by rw [hk, Int.mul_comm]⟩
  have : num * y = (k * x) * y := by rw [h, hk, Int.mul_comm k x, Int.mul_assoc, Int.mul_comm y k]
  exact Int.eq_of_mul_eq_mul_right (by omega) this
theorem plR_mul {x y k : Int} (hv : vfB x y = true) (hk : k ≠ 0) : plR (k * x) (k * y) = (x, y, 0) := by
  obtain ⟨y1, _, _, _, hg⟩ := vfB_iff.1 hv
  have hG : plG (k * x) (k * y) = k := by
    unfold plG
    rw [Int.gcd_mul_left, hg]
    rcases Int.lt_or_lt_of_ne hk with h | h
    · have : k * y < 0 := Int.mul_neg_of_neg_of_pos h (by omega)
      rw [if_pos this]; omega
    · have : 0 < k * y := Int.mul_pos h (by omega)
      rw [if_neg (by omega)]; omega
  rw [plR_eq hG, Int.mul_comm k x, Int.mul_comm k y, Int.mul_tdiv_cancel _ hk, Int.mul_tdiv_cancel _ hk, if_pos hv]
/-- A quotient equal to a fraction in lowest terms. -/
theorem plR_cross {x y num den : Int} (hv : vfB x y = true) (hd : den ≠ 0) (h : num * y = x * den) : plR num den = (x, y, 0) := by
  obtain ⟨y1, _, _, _, hg⟩ := vfB_iff.1 hv
  obtain ⟨k, rfl, rfl⟩ := cross_mul y1 hg h
  exact plR_mul hv (fun e => hd (by rw [e, Int.zero_mul]))
theorem low_uniq {x y u v : Int} (hv : vfB x y = true) (hv' : vfB u v = true) (h : x * v = u * y) : x = u ∧ y = v := by
  have h1 := plR_mul hv (k := 1) (by omega)
  obtain ⟨y1, _⟩ := vfB_iff.1 hv
  have h2 := plR_cross (num := x) (den := y) hv' (by omega) h
  rw [Int.one_mul, Int.one_mul, h2] at h1
  injection h1 with e1 e2
  injection e2 with e2 _
  exact ⟨e1.symm, e2.symm⟩
/-- Lowest terms of a quotient with positive denominator. -/
theorem plR_ex {num den : Int} (h1 : 1 ≤ den) (h2 : den ≤ 1000000000) (h3 : -1000000000 ≤ num) (h4 : num ≤ 1000000000) :
    ∃ n d g, plR num den = (n, d, 0) ∧ vfB n d = true ∧ num = n * g ∧ den = d * g ∧ 1 ≤ g := by
  have hg := gcd_pos (a := num) (.inr (show 0 < den by omega))
  obtain ⟨n, hn⟩ := Int.gcd_dvd_left num den
  obtain ⟨d, hd⟩ := Int.gcd_dvd_right num den
  obtain ⟨g, hgg⟩ : ∃ g : Int, g = (Int.gcd num den : Nat) := ⟨_, rfl⟩
  rw [← hgg] at hn hd
  have g1 : 1 ≤ g := by omega
  have hc : Int.gcd n d = 1 := by
    have h := Int.gcd_mul_left g n d
    rw [← hn, ← hd] at h
    have e : g.natAbs = Int.gcd num den := by omega
    rw [e] at h
    have hp : 0 < Int.gcd num den := hg
    exact Nat.eq_of_mul_eq_mul_left hp (by rw [Nat.mul_one]; exact h.symm)
  have d1 : 1 ≤ d := by
    rcases Int.lt_or_le 0 d with h | h
    · exact h
    · have := Int.mul_nonpos_of_nonneg_of_nonpos (show 0 ≤ g by omega) h; omega
  have hdl : d ≤ den := by
    have := Int.mul_le_mul_of_nonneg_right g1 (show 0 ≤ d by omega)
    rw [Int.one_mul, ← hd] at this; exact this
  have hnl : n.natAbs ≤ num.natAbs := by
    rw [hn, Int.natAbs_mul]
    exact Nat.le_mul_of_pos_left _ (by omega)
  have hv : vfB n d = true := vfB_iff.2 ⟨d1, by omega, by omega, by omega, hc⟩
  refine ⟨n, d, g, ?_, hv, by rw [hn, Int.mul_comm], by rw [hd, Int.mul_comm], g1⟩
  refine plR_cross hv (by omega) ?_
  rw [hn, hd, Int.mul_comm g n, Int.mul_assoc]
theorem cmpI_neg (x y : Int) : cmpI y x = -cmpI x y := by
  unfold cmpI
  split <;> split <;> (try split) <;> omega
theorem cmpI_zero (x y : Int) : cmpI x y = 0 ↔ x = y := by
  unfold cmpI
  constructor
  · intro h; split at h
    · omega
    · split at h <;> omega
  · intro h; rw [if_neg (by omega), if_neg (by omega)]
theorem cmpI_scale {a b c d g : Int} (hg : 1 ≤ g) (h : (a - b) * g = c - d) : cmpI a b = cmpI c d := by
  unfold cmpI
  rcases (by omega : a < b ∨ b < a ∨ a = b) with h1 | h1 | h1
  · have : (a - b) * g < 0 := Int.mul_neg_of_neg_of_pos (by omega) (by omega)
    rw [if_pos h1, if_pos (by omega)]
  · have : 0 < (a - b) * g := Int.mul_pos (by omega) (by omega)
    rw [if_neg (by omega), if_pos h1, if_neg (by omega), if_pos (by omega)]
  · have : (a - b) * g = 0 := by rw [h1, Int.sub_self, Int.zero_mul]
    rw [if_neg (by omega), if_neg (by omega), if_neg (by omega), if_neg (by omega)]
/-- A valid fraction's text is read as the fraction. -/
theorem rf_text {x y : Int} (hv : vfB x y = true) : rfT (frS x y) = (x, y, true) := by
  obtain ⟨y1, y2, x1, x2, _⟩ := vfB_iff.1 hv
  have hx := rdB_itoa (n := x) (by omega)
  have hy := rdB_itoa (n := y) (by omega)
  refine rfT_some (z := (x, y)) ?_
  unfold rfO frS
  rw [if_pos hv]
  by_cases h1 : y = 1
  · subst h1
    rw [if_pos rfl, decS_data, splL_none 47 _ (rd_no47 hx)]
    show (if _ then _ else _) = _
    rw [val_itoa, if_pos ⟨hx, hv⟩]
  · rw [if_neg h1, data_app, data_app, decS_data, decS_data]
    have e : Lib.itoa x ++ (⟨#[47]⟩ : ByteArray).data.toList ++ Lib.itoa y = Lib.itoa x ++ 47 :: Lib.itoa y := by simp
    rw [e, splL_app 47 _ _ (rd_no47 hx), splL_none 47 _ (rd_no47 hy)]
    show (if _ then _ else _) = _
    rw [val_itoa, val_itoa, if_pos ⟨hx, hy, h1, hv⟩]
theorem small_mul {x y a b : Int} (h1 : -a ≤ x) (h2 : x ≤ a) (h3 : -b ≤ y) (h4 : y ≤ b) : -(a * b) ≤ x * y ∧ x * y ≤ a * b := by
  have h : (x * y).natAbs ≤ a.natAbs * b.natAbs := by rw [Int.natAbs_mul]; exact Nat.mul_le_mul (by omega) (by omega)
  have e : (a.natAbs * b.natAbs : Nat) = (a * b).natAbs := (Int.natAbs_mul a b).symm
  have h0 : 0 ≤ a * b := Int.mul_nonneg (by omega) (by omega)
  omega
theorem pos_mul {x y : Int} (h1 : 1 ≤ x) (h2 : 1 ≤ y) : 1 ≤ x * y := by have := Int.mul_pos (show 0 < x by omega) (show 0 < y by omega); omega
/-- The lowest terms are not greater than what they are the lowest terms of. -/
theorem low_le {n g num : Int} (hg : 1 ≤ g) (h : num = n * g) : n.natAbs ≤ num.natAbs := by
  rw [h, Int.natAbs_mul]; exact Nat.le_mul_of_pos_right _ (by omega)
/-- All that the law of fields wants of two fractions. -/
theorem fields {p q r s : Int} (v1 : vfB p q = true) (v2 : vfB r s = true) (p1 : -300 ≤ p) (p2 : p ≤ 300) (q2 : q ≤ 300) (r1 : -300 ≤ r) (r2 : r ≤ 300) (s2 : s ≤ 300) :
    ∃ sn sd mn md un ud : Int, plR (p*s+r*q) (q*s) = (sn, sd, 0) ∧ vfB sn sd = true ∧ plR (sn*s-r*sd) (sd*s) = (p, q, 0) ∧
      plR (p*r) (q*s) = (mn, md, 0) ∧ vfB mn md = true ∧ (r ≠ 0 → plR (mn*s) (md*r) = (p, q, 0)) ∧
      plR (p+r) (q+s) = (un, ud, 0) ∧ vfB un ud = true ∧ cmpI (p*ud) (un*q) = cmpI (p*s) (r*q) ∧ cmpI (un*s) (r*ud) = cmpI (p*s) (r*q) ∧ (cmpI (p*s) (r*q) = 0 ↔ p = r ∧ q = s) := by
  obtain ⟨q1, _⟩ := vfB_iff.1 v1
  obtain ⟨s1, _⟩ := vfB_iff.1 v2
  have b1 := small_mul (x := p) (y := s) (a := 300) (b := 300) (by omega) (by omega) (by omega) (by omega)
  have b2 := small_mul (x := r) (y := q) (a := 300) (b := 300) (by omega) (by omega) (by omega) (by omega)
  have b3 := small_mul (x := q) (y := s) (a := 300) (b := 300) (by omega) (by omega) (by omega) (by omega)
  have b4 := small_mul (x := p) (y := r) (a := 300) (b := 300) (by omega) (by omega) (by omega) (by omega)
  have qs := pos_mul q1 s1
  obtain ⟨sn, sd, g1, e1, w1, n1, d1, gg1⟩ := plR_ex (num := p*s+r*q) (den := q*s) qs (by omega) (by omega) (by omega)
  obtain ⟨mn, md, g2, e2, w2, n2, d2, gg2⟩ := plR_ex (num := p*r) (den := q*s) qs (by omega) (by omega) (by omega)
  obtain ⟨un, ud, g3, e3, w3, n3, d3, gg3⟩ := plR_ex (num := p+r) (den := q+s) (by omega) (by omega) (by omega) (by omega)
  obtain ⟨sd1, _⟩ := vfB_iff.1 w1
  obtain ⟨md1, _⟩ := vfB_iff.1 w2
  have can : ∀ {a b g : Int}, 1 ≤ g → a * g = b * g → a = b := fun hg h => Int.eq_of_mul_eq_mul_right (by omega) h
  refine ⟨sn, sd, mn, md, un, ud, e1, w1, ?_, e2, w2, fun hr => ?_, e3, w3, ?_, ?_, ?_⟩
  · refine plR_cross v1 (by have := pos_mul sd1 s1; omega) (can gg1 ?_)
    have a1 : (sn * s - r * sd) * q * g1 = ((sn * g1) * s - r * (sd * g1)) * q := by grind
    have a2 : p * (sd * s) * g1 = p * ((sd * g1) * s) := by grind
    rw [a1, a2, ← n1, ← d1]
    grind
  · refine plR_cross v1 (fun h => ?_) (can gg2 ?_)
    · rcases Int.mul_eq_zero.1 h with h | h
      · omega
      · exact hr h
    · have a1 : mn * s * q * g2 = (mn * g2) * (q * s) := by grind
      have a2 : p * (md * r) * g2 = (p * r) * (md * g2) := by grind
      rw [a1, a2, ← n2, ← d2]
  · refine cmpI_scale gg3 ?_
    have a1 : (p * ud - un * q) * g3 = p * (ud * g3) - (un * g3) * q := by grind
    rw [a1, ← n3, ← d3]
    grind
  · refine cmpI_scale gg3 ?_
    have a1 : (un * s - r * ud) * g3 = (un * g3) * s - r * (ud * g3) := by grind
    rw [a1, ← n3, ← d3]
    grind
  · rw [cmpI_zero]
    constructor
    · intro h; exact low_uniq v1 v2 h
    · rintro ⟨rfl, rfl⟩; rfl
end Go.Proofs.YtnikogholldcmaaDoor
