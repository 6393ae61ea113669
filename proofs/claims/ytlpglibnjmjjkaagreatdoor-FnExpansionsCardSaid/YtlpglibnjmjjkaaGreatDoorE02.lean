/-
  Contracts of the functions on fractions: absolute values, greatest common divisors, valid fractions, and the laws' copies of fractions.
  The walks of the laws FnExactValidFraction and FnExactAreNeighbours: each returns true.
  The walks of the laws FnExactCommonTerms and FnExactValidPath: each returns true.
  Contracts of the tests of lists of terms, in the program and in the reference; the walk of the law FnExactValidTerms.
  Contracts of the arithmetic of fractions: lowest terms, comparison, sum, difference, product, quotient, mediant, floor, in the program and in the reference.
  The short terms of a fraction: contracts of the program's and of the reference's functions; the walk of the law FnExactExpandFraction.
  Contracts of the exported functions on fractions, and the walks of their laws.
  The laws' comparison of equal lists of fractions.
  The convergents of terms: contracts of the program's and of the reference's functions.
  The convergents and the value of terms: contracts of the exported functions; the walks of the laws FnExactConvergentsOf and FnExactValueOfTerms.
  The value of terms: contracts of the exported functions; the walk of the law FnExactValueOfTerms.
  Conditions: those of the law's own text, and that the package-level variables hold what the program's text lays in them.
-/
import Derived.Test.YtlpglibnjmjjkaaGreatDoorProg
import Derived.Test.YtlpglibnjmjjkaaGreatDoorE01
import Derived.Handy
import Derived.BigQuiet
import Derived.Deep.QuietTactic
import Derived.Deep.RegionHeld3
import Derived.Deep.DrawnRows
import Derived.RegionTactic
import Derived.BigRegion
import Derived.Deep.AppendLies
import Derived.Deep.DeepCutAuto
import Derived.StillTailTactics
namespace Go.Proofs.YtlpglibnjmjjkaaGreatDoor
open Go.RowKit
set_option linter.unusedVariables false

theorem abs_any (n : Int) (w : World) (h1 : -9223372036854775807 ≤ n) (h2 : n ≤ 9223372036854775807) : Calls Tryz.prog 61 #[.int .i64 n] w fun e w' => e = .returned (.int .i64 (n.natAbs : Int)) ∧ w = w' := by
  by_cases h : n < 0
  · rw [show (n.natAbs : Int) = -n from by omega]
    go_enter Tryz.func61, Tryz.ntmps61
    go_wp2
    go_ret
    exact ⟨rfl, rfl⟩
  · rw [show (n.natAbs : Int) = n from by omega]
    go_enter Tryz.func61, Tryz.ntmps61
    go_wp2
    go_ret
    exact ⟨rfl, rfl⟩
theorem l02Size_any (n : Int) (w : World) (h1 : -9223372036854775807 ≤ n) (h2 : n ≤ 9223372036854775807) : Calls Tryz.prog 55 #[.int .i64 n] w fun e w' => e = .returned (.int .i64 (n.natAbs : Int)) ∧ w = w' := by
  by_cases h : n < 0
  · rw [show (n.natAbs : Int) = -n from by omega]
    go_enter Tryz.func55, Tryz.ntmps55
    go_wp2
    go_ret
    exact ⟨rfl, rfl⟩
  · rw [show (n.natAbs : Int) = n from by omega]
    go_enter Tryz.func55, Tryz.ntmps55
    go_wp2
    go_ret
    exact ⟨rfl, rfl⟩

theorem l02Gcd_any (a b : Nat) (w : World) (h1 : (a : Int) ≤ 9223372036854775807) (h2 : (b : Int) ≤ 9223372036854775807) : Calls Tryz.prog 114 #[.int .i64 a, .int .i64 b] w fun e w' => e = .returned (.int .i64 (Nat.gcd a b : Nat)) ∧ w = w' := by
  go_enter Tryz.func114, Tryz.ntmps114
  go_wp2
  go_loop [0, 1] (fun u v => ∃ x y : Nat, u = .int .i64 x ∧ v = .int .i64 y ∧ (x : Int) ≤ 9223372036854775807 ∧ (y : Int) ≤ 9223372036854775807 ∧ Nat.gcd x y = Nat.gcd a b) (fun _ v => (intOf v).toNat)
  case atStart => exact ⟨a, b, rfl, rfl, h1, h2, rfl⟩
  case round =>
    obtain ⟨x, y, rfl, rfl, hx, hy, hg⟩ := hrel
    have HG := Lib.hid hg; clear hg
    by_cases hz : y = 0
    · have hx' : x = Nat.gcd a b := by have := HG.out; simpa [hz] using this
      have hy0 : (y : Int) ≤ 0 := by omega
      have HX := Lib.hid hx'; clear hx' hz
      go_wp2
      go_ret
      exact ⟨ret_int (by rw [HX.out]), rfl⟩
    · have hpos : 1 ≤ (y : Int) := by omega
      have hb : ((y : Int) != 0) = true := by rw [bne_iff_ne]; omega
      have hm0 : 0 ≤ (x : Int) % (y : Int) := by omega
      have hm : (x : Int) % (y : Int) < y := Int.emod_lt_of_pos _ (by omega)
      go_wp2
      go_round
      case rel => exact ⟨y, x % y, rfl, by go_num, hy, by omega, by rw [← HG.out, Nat.gcd_comm y (x % y), ← Nat.gcd_rec, Nat.gcd_comm]⟩
      case measure => simp [intOf]; omega

theorem gcd_any (a b : Int) (w : World) (h1 : -9223372036854775807 ≤ a) (h2 : a ≤ 9223372036854775807) (h3 : -9223372036854775807 ≤ b) (h4 : b ≤ 9223372036854775807) :
    Calls Tryz.prog 84 #[.int .i64 a, .int .i64 b] w fun e w' => e = .returned (.int .i64 (Int.gcd a b : Nat)) ∧ ∃ m, w' = w.drewN m := by
  go_enter Tryz.func84, Tryz.ntmps84
  go_wp2_with (first | (go_at_call 61; refine (abs_any _ _ (by assumption) (by assumption)).mono ?_; rintro e w1 ⟨rfl, rfl⟩))
  go_loopw [0, 1] (fun u v wr => ∃ x y : Nat, u = .int .i64 x ∧ v = .int .i64 y ∧ (x : Int) ≤ 9223372036854775807 ∧ (y : Int) ≤ 9223372036854775807 ∧ Nat.gcd x y = Int.gcd a b ∧ ∃ m, wr = w.drewN m) (fun _ v _ => (intOf v).toNat)
  case atStart => exact ⟨a.natAbs, b.natAbs, rfl, rfl, by omega, by omega, rfl, 0, rfl⟩
  case round =>
    obtain ⟨x, y, rfl, rfl, hx, hy, hg, md, rfl⟩ := hrel
    have HG := Lib.hid hg; clear hg
    by_cases hz : y = 0
    · have hx' : x = Int.gcd a b := by have := HG.out; simpa [hz] using this
      have hy0 : (y : Int) ≤ 0 := by omega
      have HX := Lib.hid hx'; clear hx' hz
      go_wp2
      go_ret
      exact ⟨ret_int (by rw [HX.out]), md, rfl⟩
    · have hpos : 1 ≤ (y : Int) := by omega
      have hb : ((y : Int) != 0) = true := by rw [bne_iff_ne]; omega
      have hm0 : 0 ≤ (x : Int) % (y : Int) := by omega
      have hm : (x : Int) % (y : Int) < y := Int.emod_lt_of_pos _ (by omega)
      go_wp2
      go_quiet (fail)
      go_wp2
      go_roundw
      case rel => exact ⟨y, x % y, rfl, by go_num, hy, by omega, by rw [← HG.out, Nat.gcd_comm y (x % y), ← Nat.gcd_rec, Nat.gcd_comm], _, World.drewN_drewN _ _ _⟩
      case measure => simp [intOf]; omega

/-- A fraction is plain. -/
def vfB (p q : Int) : Bool := decide (1 ≤ q ∧ q ≤ 1000000000 ∧ -1000000000 ≤ p ∧ p ≤ 1000000000 ∧ Int.gcd p q = 1)
theorem vfB_t {p q : Int} (h1 : 1 ≤ q) (h2 : q ≤ 1000000000) (h3 : -1000000000 ≤ p) (h4 : p ≤ 1000000000) (h5 : Int.gcd p q = 1) : vfB p q = true := decide_eq_true ⟨h1, h2, h3, h4, h5⟩
theorem vfB_f {p q : Int} (h : ¬ (1 ≤ q ∧ q ≤ 1000000000 ∧ -1000000000 ≤ p ∧ p ≤ 1000000000 ∧ Int.gcd p q = 1)) : vfB p q = false := decide_eq_false h
theorem vfB_iff {p q : Int} : vfB p q = true ↔ 1 ≤ q ∧ q ≤ 1000000000 ∧ -1000000000 ≤ p ∧ p ≤ 1000000000 ∧ Int.gcd p q = 1 := by unfold vfB; exact decide_eq_true_iff

theorem validFraction_any (p q : Int) (w : World) : Calls Tryz.prog 41 #[.agg #[.int .i64 p, .int .i64 q]] w fun e w' => e = .returned (.bool (vfB p q)) ∧ Below w.heap.size w w' := by
  by_cases h1 : 1 ≤ q ∧ q ≤ 1000000000
  · have i1 := inB_t h1.1 h1.2
    by_cases h2 : -1000000000 ≤ p ∧ p ≤ 1000000000
    · have i2 := inB_t h2.1 h2.2
      obtain ⟨h1a, h1b⟩ := h1
      obtain ⟨h2a, h2b⟩ := h2
      by_cases h3 : Int.gcd p q = 1
      · rw [vfB_t h1a h1b h2a h2b h3]
        have H3 := Lib.hid h3
        have e3 : (((Int.gcd p q : Nat) : Int) == 1) = true := by rw [h3]; rfl
        clear h3
        go_enter Tryz.func41, Tryz.ntmps41
        go_wp2_with (first | (go_at_call 78; refine (within_any _ _ _ _).mono ?_; rintro e w1 ⟨rfl, rfl⟩) | (go_at_call 84; refine (gcd_any p q _ (by omega) (by omega) (by omega) (by omega)).mono ?_; rintro e w1 ⟨rfl, m, rfl⟩))
        go_ret
        exact ⟨rfl, ((Below.refl _ _).alloc (Nat.le_refl _) _).trans (below_drewN _ _ _)⟩
      · rw [vfB_f (by omega)]
        have e3 : (((Int.gcd p q : Nat) : Int) == 1) = false := by rw [beq_eq_false_iff_ne]; omega
        clear h3
        go_enter Tryz.func41, Tryz.ntmps41
        go_wp2_with (first | (go_at_call 78; refine (within_any _ _ _ _).mono ?_; rintro e w1 ⟨rfl, rfl⟩) | (go_at_call 84; refine (gcd_any p q _ (by omega) (by omega) (by omega) (by omega)).mono ?_; rintro e w1 ⟨rfl, m, rfl⟩))
        go_ret
        exact ⟨rfl, ((Below.refl _ _).alloc (Nat.le_refl _) _).trans (below_drewN _ _ _)⟩
    · rw [vfB_f (by omega)]
      have i2 : inB p (-1000000000) 1000000000 = false := inB_f (by omega)
      clear h1 h2
      go_enter Tryz.func41, Tryz.ntmps41
      go_wp2_with (first | (go_at_call 78; refine (within_any _ _ _ _).mono ?_; rintro e w1 ⟨rfl, rfl⟩))
      go_ret
      exact ⟨rfl, (Below.refl _ _).alloc (Nat.le_refl _) _⟩
  · rw [vfB_f (by omega)]
    have i1 : inB q 1 1000000000 = false := inB_f (by omega)
    clear h1
    go_enter Tryz.func41, Tryz.ntmps41
    go_wp2_with (first | (go_at_call 78; refine (within_any _ _ _ _).mono ?_; rintro e w1 ⟨rfl, rfl⟩))
    go_ret
    exact ⟨rfl, (Below.refl _ _).alloc (Nat.le_refl _) _⟩

set_option maxHeartbeats 1600000 in
theorem l02Ok_any (p q : Int) (w : World) : Calls Tryz.prog 102 #[.agg #[.int .i64 p, .int .i64 q]] w fun e w' => e = .returned (.bool (vfB p q)) ∧ Below w.heap.size w w' := by
  by_cases h2 : -1000000000 ≤ p ∧ p ≤ 1000000000
  · have i2 := inB_t h2.1 h2.2
    by_cases h1 : 1 ≤ q ∧ q ≤ 1000000000
    · have i1 := inB_t h1.1 h1.2
      obtain ⟨h1a, h1b⟩ := h1
      obtain ⟨h2a, h2b⟩ := h2
      obtain ⟨d, rfl⟩ := Int.eq_ofNat_of_zero_le (show 0 ≤ q by omega)
      have hgg : Int.gcd p d = Nat.gcd p.natAbs d := rfl
      by_cases h3 : Nat.gcd p.natAbs d = 1
      · rw [vfB_t h1a h1b h2a h2b (by rw [hgg, h3])]
        have e3 : (((Nat.gcd p.natAbs d : Nat) : Int) == 1) = true := by rw [h3]; rfl
        clear h3 hgg
        go_enter Tryz.func102, Tryz.ntmps102
        go_wp2
        go_quiet ((first | (go_at_call 86; exact quiet_eq (l00In_any _ _ _ _)) | (go_at_call 55; exact quiet_eq (l02Size_any _ _ (by omega) (by omega))) | (go_at_call 114; exact quiet_eq (l02Gcd_any p.natAbs d _ (by omega) (by omega)))))
        go_wp2
        go_ret
        exact ⟨rfl, ((Below.refl _ _).alloc (Nat.le_refl _) _).trans (below_drewN _ _ _)⟩
      · rw [vfB_f (by rw [hgg]; omega)]
        have e3 : (((Nat.gcd p.natAbs d : Nat) : Int) == 1) = false := by rw [beq_eq_false_iff_ne]; omega
        clear h3 hgg
        go_enter Tryz.func102, Tryz.ntmps102
        go_wp2
        go_quiet ((first | (go_at_call 86; exact quiet_eq (l00In_any _ _ _ _)) | (go_at_call 55; exact quiet_eq (l02Size_any _ _ (by omega) (by omega))) | (go_at_call 114; exact quiet_eq (l02Gcd_any p.natAbs d _ (by omega) (by omega)))))
        go_wp2
        go_ret
        exact ⟨rfl, ((Below.refl _ _).alloc (Nat.le_refl _) _).trans (below_drewN _ _ _)⟩
    · rw [vfB_f (by omega)]
      have i1 : inB q 1 1000000000 = false := inB_f (by omega)
      clear h1 h2
      go_enter Tryz.func102, Tryz.ntmps102
      go_wp2
      go_quiet ((go_at_call 86; exact quiet_eq (l00In_any _ _ _ _)))
      go_wp2
      go_ret
      exact ⟨rfl, ((Below.refl _ _).alloc (Nat.le_refl _) _).trans (below_drewN _ _ _)⟩
  · rw [vfB_f (by omega)]
    have i2 : inB p (-1000000000) 1000000000 = false := inB_f (by omega)
    clear h2
    go_enter Tryz.func102, Tryz.ntmps102
    go_wp2
    go_quiet ((go_at_call 86; exact quiet_eq (l00In_any _ _ _ _)))
    go_wp2
    go_ret
    exact ⟨rfl, ((Below.refl _ _).alloc (Nat.le_refl _) _).trans (below_drewN _ _ _)⟩

end Go.Proofs.YtlpglibnjmjjkaaGreatDoor
namespace Go.Proofs.YtlpglibnjmjjkaaGreatDoor
open Go.RowKit
set_option linter.unusedVariables false
attribute [local go_sem ↓] Go.wp_at_zero Go.wp_at_succ

/-- Two fractions are neighbours. -/
def nbB (p q r s : Int) : Bool := vfB p q && (vfB r s && decide ((p * s - r * q).natAbs = 1))
theorem nbB_a {p q r s : Int} (h : vfB p q = false) : nbB p q r s = false := by unfold nbB; rw [h]; rfl
theorem nbB_b {p q r s : Int} (h : vfB r s = false) : nbB p q r s = false := by unfold nbB; rw [h]; simp
theorem nbB_c {p q r s : Int} (h : vfB p q = true) (h' : vfB r s = true) : nbB p q r s = decide ((p * s - r * q).natAbs = 1) := by unfold nbB; rw [h, h']; simp

/-- The code of two fractions. -/
def twoC (p q r s : Int) : Int := if vfB p q = true ∧ vfB r s = true then 0 else 1
theorem l02Two_any (p q r s : Int) (w : World) : Calls Tryz.prog 54 #[.agg #[.int .i64 p, .int .i64 q], .agg #[.int .i64 r, .int .i64 s]] w fun e w' => e = .returned (.int .i64 (twoC p q r s)) ∧ Below w.heap.size w w' := by
  by_cases h1 : vfB p q = true
  · by_cases h2 : vfB r s = true
    · rw [show twoC p q r s = 0 from if_pos ⟨h1, h2⟩]
      go_enter Tryz.func54, Tryz.ntmps54
      go_wp2_with fail
      refine (l02Ok_any p q _).mono ?_
      rintro e w1 ⟨rfl, hb1⟩
      obtain ⟨hc1, hf1, hs1⟩ := keepc hb1
      have hB1 : Below w.heap.size w w1 := Below.trans (by go_grown) (hb1.mono (by first | exact Nat.le_refl _ | (simp only [World.size_alloc]; omega)))
      try simp only [World.size_alloc] at hs1
      have hl1_0 : w.heap.size < w1.heap.size := by omega
      have hl1_1 : w.heap.size + 1 < w1.heap.size := by omega
      go_wp2_with fail
      refine (l02Ok_any r s _).mono ?_
      rintro e w2 ⟨rfl, hb2⟩
      obtain ⟨hc2, hf2, hs2⟩ := keepc hb2
      have hB2 : Below w.heap.size w w2 := hB1.trans (hb2.mono (by have := hB1.size; omega))
      have hl2_0 : w.heap.size < w2.heap.size := by omega
      have hl2_1 : w.heap.size + 1 < w2.heap.size := by omega
      go_wp2_with fail
      go_ret
      exact ⟨rfl, hB2⟩
    · rw [show twoC p q r s = 1 from if_neg (fun h => h2 h.2)]
      have h2 := eq_false_of_ne_true h2
      go_enter Tryz.func54, Tryz.ntmps54
      go_wp2_with fail
      refine (l02Ok_any p q _).mono ?_
      rintro e w1 ⟨rfl, hb1⟩
      obtain ⟨hc1, hf1, hs1⟩ := keepc hb1
      have hB1 : Below w.heap.size w w1 := Below.trans (by go_grown) (hb1.mono (by first | exact Nat.le_refl _ | (simp only [World.size_alloc]; omega)))
      try simp only [World.size_alloc] at hs1
      have hl1_0 : w.heap.size < w1.heap.size := by omega
      have hl1_1 : w.heap.size + 1 < w1.heap.size := by omega
      go_wp2_with fail
      refine (l02Ok_any r s _).mono ?_
      rintro e w2 ⟨rfl, hb2⟩
      obtain ⟨hc2, hf2, hs2⟩ := keepc hb2
      have hB2 : Below w.heap.size w w2 := hB1.trans (hb2.mono (by have := hB1.size; omega))
      have hl2_0 : w.heap.size < w2.heap.size := by omega
      have hl2_1 : w.heap.size + 1 < w2.heap.size := by omega
      go_wp2_with fail
      go_ret
      exact ⟨rfl, hB2⟩
  · rw [show twoC p q r s = 1 from if_neg (fun h => h1 h.1)]
    have h1 := eq_false_of_ne_true h1
    go_enter Tryz.func54, Tryz.ntmps54
    go_wp2_with fail
    refine (l02Ok_any p q _).mono ?_
    rintro e w1 ⟨rfl, hb1⟩
    obtain ⟨hc1, hf1, hs1⟩ := keepc hb1
    have hB1 : Below w.heap.size w w1 := Below.trans (by go_grown) (hb1.mono (by first | exact Nat.le_refl _ | (simp only [World.size_alloc]; omega)))
    try simp only [World.size_alloc] at hs1
    have hl1_0 : w.heap.size < w1.heap.size := by omega
    have hl1_1 : w.heap.size + 1 < w1.heap.size := by omega
    go_wp2_with fail
    go_ret
    exact ⟨rfl, hB1⟩
theorem specAreNeighbours_any (p q r s : Int) (w : World) : Calls Tryz.prog 15 #[.agg #[.int .i64 p, .int .i64 q], .agg #[.int .i64 r, .int .i64 s]] w fun e w' => e = .returned (.bool (nbB p q r s)) ∧ Below w.heap.size w w' := by
  by_cases hh : vfB p q = true ∧ vfB r s = true
  · obtain ⟨h1, h2⟩ := hh
    rw [nbB_c h1 h2]
    obtain ⟨a1, a2, a3, a4, _⟩ := vfB_iff.1 h1
    obtain ⟨b1, b2, b3, b4, _⟩ := vfB_iff.1 h2
    obtain ⟨m1, m2⟩ := mul_bd a3 a4 (by omega) b2 (y := s)
    obtain ⟨m3, m4⟩ := mul_bd b3 b4 (by omega) a2 (y := q)
    have ht : twoC p q r s = 0 := if_pos ⟨h1, h2⟩
    by_cases h3 : (p * s - r * q).natAbs = 1
    · rw [decide_eq_true h3]
      have e3 : (((p * s - r * q).natAbs : Int) == 1) = true := by rw [h3]; rfl
      clear h3
      go_enter Tryz.func15, Tryz.ntmps15
      go_wp2_with fail
      refine (l02Two_any p q r s _).mono ?_
      rintro e w1 ⟨rfl, hb1⟩
      obtain ⟨hc1, hf1, hs1⟩ := keepc hb1
      have hB1 : Below w.heap.size w w1 := Below.trans (by go_grown) (hb1.mono (by first | exact Nat.le_refl _ | (simp only [World.size_alloc]; omega)))
      try simp only [World.size_alloc] at hs1
      have hl1_0 : w.heap.size < w1.heap.size := by omega
      have hl1_1 : w.heap.size + 1 < w1.heap.size := by omega
      go_wp2_with fail
      refine (l02Size_any _ _ (by omega) (by omega)).mono ?_
      rintro e w3 ⟨rfl, rfl⟩
      go_wp2_with fail
      go_ret
      exact ⟨rfl, hB1⟩
    · rw [decide_eq_false h3]
      have e3 : (((p * s - r * q).natAbs : Int) == 1) = false := by rw [beq_eq_false_iff_ne]; omega
      clear h3
      go_enter Tryz.func15, Tryz.ntmps15
      go_wp2_with fail
      refine (l02Two_any p q r s _).mono ?_
      rintro e w1 ⟨rfl, hb1⟩
      obtain ⟨hc1, hf1, hs1⟩ := keepc hb1
      have hB1 : Below w.heap.size w w1 := Below.trans (by go_grown) (hb1.mono (by first | exact Nat.le_refl _ | (simp only [World.size_alloc]; omega)))
      try simp only [World.size_alloc] at hs1
      have hl1_0 : w.heap.size < w1.heap.size := by omega
      have hl1_1 : w.heap.size + 1 < w1.heap.size := by omega
      go_wp2_with fail
      refine (l02Size_any _ _ (by omega) (by omega)).mono ?_
      rintro e w3 ⟨rfl, rfl⟩
      go_wp2_with fail
      go_ret
      exact ⟨rfl, hB1⟩
  · have hn : nbB p q r s = false := by
      by_cases h1 : vfB p q = true
      · exact nbB_b (eq_false_of_ne_true (fun h2 => hh ⟨h1, h2⟩))
      · exact nbB_a (eq_false_of_ne_true h1)
    rw [hn]
    have ht : twoC p q r s = 1 := if_neg hh
    clear hh hn
    go_enter Tryz.func15, Tryz.ntmps15
    go_wp2_with fail
    refine (l02Two_any p q r s _).mono ?_
    rintro e w1 ⟨rfl, hb1⟩
    obtain ⟨hc1, hf1, hs1⟩ := keepc hb1
    have hB1 : Below w.heap.size w w1 := Below.trans (by go_grown) (hb1.mono (by first | exact Nat.le_refl _ | (simp only [World.size_alloc]; omega)))
    try simp only [World.size_alloc] at hs1
    have hl1_0 : w.heap.size < w1.heap.size := by omega
    have hl1_1 : w.heap.size + 1 < w1.heap.size := by omega
    go_wp2_with fail
    go_ret
    exact ⟨rfl, hB1⟩
end Go.Proofs.YtlpglibnjmjjkaaGreatDoor
namespace Go.Proofs.YtlpglibnjmjjkaaGreatDoor
open Go.RowKit
set_option linter.unusedVariables false

/-- How many of the first elements of both lists are equal. -/
def comm : List Int → List Int → Nat
  | a :: x, b :: y => if a = b then comm x y + 1 else 0
  | _, _ => 0
theorem comm_le1 : ∀ x y : List Int, comm x y ≤ x.length
  | [], y => by simp [comm]
  | a :: x, [] => by simp [comm]
  | a :: x, b :: y => by
    unfold comm; split
    · have := comm_le1 x y; simp; omega
    · simp
theorem comm_le2 : ∀ x y : List Int, comm x y ≤ y.length
  | [], y => by simp [comm]
  | a :: x, [] => by simp [comm]
  | a :: x, b :: y => by
    unfold comm; split
    · have := comm_le2 x y; simp; omega
    · simp
theorem comm_lt : ∀ (x y : List Int) (k : Nat) (a b : Int), x[k]? = some a → y[k]? = some b → k < comm x y → a = b
  | [], y, k, a, b, h, _, _ => by simp at h
  | c :: x, [], k, a, b, _, h, _ => by simp at h
  | c :: x, d :: y, 0, a, b, h1, h2, h => by
    simp at h1 h2; subst h1 h2
    unfold comm at h; split at h
    · assumption
    · omega
  | c :: x, d :: y, k + 1, a, b, h1, h2, h => by
    unfold comm at h; split at h
    · exact comm_lt x y k a b (by simpa using h1) (by simpa using h2) (by omega)
    · omega
theorem comm_at : ∀ (x y : List Int) (a b : Int), x[comm x y]? = some a → y[comm x y]? = some b → a ≠ b
  | [], y, a, b, h, _ => by simp at h
  | c :: x, [], a, b, _, h => by simp at h
  | c :: x, d :: y, a, b, h1, h2 => by
    unfold comm at h1 h2
    split at h1
    · rename_i he
      rw [if_pos he] at h2
      exact comm_at x y a b (by simpa using h1) (by simpa using h2)
    · rename_i he
      rw [if_neg he] at h2
      simp at h1 h2; subst h1 h2; exact he

theorem implCommon_any (A : Option Addr) (n cap : Nat) (A' : Option Addr) (n' cap' : Nat) (zs ys : List Int) (w : World) (h : IRow w A n zs) (h' : IRow w A' n' ys) :
    Calls Tryz.prog 16 #[.slice A n cap, .slice A' n' cap'] w fun e w' => e = .returned (.int .i64 (comm zs ys : Nat)) ∧ ∃ m, w' = w.drewN m := by
  have hbd := h.bd
  have hbd' := h'.bd
  have hl1 := comm_le1 zs ys
  have hl2 := comm_le2 zs ys
  rw [h.len] at hl1
  rw [h'.len] at hl2
  obtain ⟨C, hC⟩ : ∃ C, C = comm zs ys := ⟨_, rfl⟩
  rw [← hC] at hl1 hl2 ⊢
  have HC := Lib.hid hC; clear hC
  have hw := Lib.hid h; clear h
  have hw' := Lib.hid h'; clear h'
  go_enter Tryz.func16, Tryz.ntmps16
  go_wp2
  go_loopw [5] (fun i wr => ∃ k : Nat, k ≤ C ∧ i = .int .i64 k ∧ ∃ m, wr = w.drewN m) (fun i _ => C - (intOf i).toNat)
  case atStart => exact ⟨0, Nat.zero_le _, rfl, 0, rfl⟩
  case round =>
    obtain ⟨k, hk, rfl, m, rfl⟩ := hrel
    by_cases hlt : k < C
    · obtain ⟨ad, z, rfl, hz, z1, z2, hc⟩ := hw.out.at_ (k := k) (by omega)
      obtain ⟨ad', z', rfl, hz', z1', z2', hc'⟩ := hw'.out.at_ (k := k) (by omega)
      have he : z = z' := comm_lt zs ys k z z' hz hz' (by rw [← HC.out]; exact hlt)
      subst he
      clear hz hz'
      have hb0 : (0 : Int) ≤ (k : Int) := by omega
      have hb1 : k < n := by omega
      have hb2 : k < n' := by omega
      go_wp2
      go_quiet (fail)
      go_wp2
      go_roundw
      case rel => exact ⟨k + 1, by omega, by go_num, _, rfl⟩
      case measure => simp [intOf]; omega
    · obtain rfl : C = k := by omega
      by_cases h1 : C < n
      · by_cases h2 : C < n'
        · obtain ⟨ad, z, rfl, hz, z1, z2, hc⟩ := hw.out.at_ (k := C) (by omega)
          obtain ⟨ad', z', rfl, hz', z1', z2', hc'⟩ := hw'.out.at_ (k := C) (by omega)
          have hne : (z == z') = false := by
            rw [beq_eq_false_iff_ne]
            have HC' := HC.out
            exact comm_at zs ys z z' (by rw [← HC']; exact hz) (by rw [← HC']; exact hz')
          clear hz hz'
          have hb0 : (0 : Int) ≤ (C : Int) := by omega
          have hb1 : C < n := by omega
          have hb2 : C < n' := by omega
          go_wp2
          go_quiet (fail)
          go_wp2
          go_ret
          exact ⟨rfl, _, World.drewN_drewN _ _ _⟩
        · have hb2 : decide (C < n') = false := decide_eq_false (by omega)
          have hb1 : C < n := by omega
          go_wp2
          go_quiet (fail)
          go_wp2
          go_ret
          exact ⟨rfl, _, World.drewN_drewN _ _ _⟩
      · have hb1 : decide (C < n) = false := decide_eq_false (by omega)
        go_wp2
        go_quiet (fail)
        go_wp2
        go_ret
        exact ⟨rfl, _, World.drewN_drewN _ _ _⟩
theorem implCommon_b (A : Option Addr) (n cap : Nat) (A' : Option Addr) (n' cap' : Nat) (zs ys : List Int) (w : World) (h : IRow w A n zs) (h' : IRow w A' n' ys) :
    Calls Tryz.prog 16 #[.slice A n cap, .slice A' n' cap'] w fun e w' => e = .returned (.int .i64 (comm zs ys : Nat)) ∧ Below w.heap.size w w' :=
  (implCommon_any A n cap A' n' cap' zs ys w h h').mono fun _ _ ⟨he, _, hw⟩ => ⟨he, hw ▸ below_drewN _ _ _⟩

end Go.Proofs.YtlpglibnjmjjkaaGreatDoor
namespace Go.Proofs.YtlpglibnjmjjkaaGreatDoor
open Go.RowKit
set_option linter.unusedVariables false

/-- A positive term. -/
def posE (k : Nat) (z : Int) : Bool := inB z 1 1000000000
/-- What the search for a bad element hands back: -1 if there is none, else a place. -/
def Found (V : Bool) (w : World) (e : Ending) (w' : World) : Prop := ∃ r : Int, e = .returned (.int .i64 r) ∧ (V = true → r = -1) ∧ (V = false → 0 ≤ r) ∧ w = w'

theorem vt_closure (z : Int) (w : World) : Calls Tryz.prog 89 #[.int .i64 z] w fun e w' => e = .returned (.bool (!inB z 1 1000000000)) ∧ w = w' := by
  go_enter Tryz.func89, Tryz.ntmps89
  go_wp2_with (go_at_call 78; refine (within_any _ _ _ _).mono ?_; rintro e w1 ⟨rfl, rfl⟩)
  go_ret
  exact ⟨rfl, rfl⟩
theorem vt_index (A : Option Addr) (n cap : Nat) (zs : List Int) (w : World) (h : IRow w A n zs) :
    Calls Tryz.prog 115 #[.slice A n cap, .func (.func 89) #[] #[]] w (Found (allK posE 0 zs) w) := by
  have hbd := h.bd
  have Hl := Lib.hid h.len
  have hw := Lib.hid h; clear h
  go_enter Tryz.func115, Tryz.ntmps115
  go_wp2
  go_loop [5, 8] (fun j i => ∃ k : Nat, k ≤ n ∧ i = .int .i64 k ∧ Hid (Upto posE zs k)) (fun _ i => n - (intOf i).toNat)
  case atStart => exact ⟨0, Nat.zero_le _, rfl, Upto.zero _ _⟩
  case round =>
    obtain ⟨k, hk, rfl, HU⟩ := hrel
    by_cases hlt : k < n
    · obtain ⟨ad, z, rfl, hz, z1, z2, hc⟩ := hw.out.at_ hlt
      have HZ := Lib.hid hz; clear hz
      cases hb : inB z 1 1000000000
      · go_wp2_with (go_at_call 89; refine (vt_closure _ _).mono ?_; rintro e w1 ⟨rfl, rfl⟩)
        go_ret
        exact ⟨_, rfl, (fun hV => by rw [allK_f posE zs 0 k z HZ.out (by rw [Nat.zero_add]; exact hb)] at hV; cases hV), (fun _ => by omega), rfl⟩
      · go_wp2_with (go_at_call 89; refine (vt_closure _ _).mono ?_; rintro e w1 ⟨rfl, rfl⟩)
        go_round
        case rel => exact ⟨k + 1, by omega, by go_num, HU.out.step HZ.out hb⟩
        case measure => simp [intOf]; omega
    · obtain rfl : n = k := by omega
      go_wp2
      go_ret
      have hV := HU.out.all (by have := Hl.out; omega)
      exact ⟨_, rfl, (fun _ => rfl), (fun h => (by rw [hV] at h; cases h)), rfl⟩
theorem vt_contains (A : Option Addr) (n cap : Nat) (zs : List Int) (w : World) (h : IRow w A n zs) :
    Calls Tryz.prog 88 #[.slice A n cap, .func (.func 89) #[] #[]] w fun e w' => e = .returned (.bool (!allK posE 0 zs)) ∧ w = w' := by
  cases hV : allK posE 0 zs
  · go_enter Tryz.func88, Tryz.ntmps88
    go_wp2_with fail
    refine (vt_index A n cap zs _ h).mono ?_
    rintro e w1 ⟨r, rfl, _, h2, rfl⟩
    have h3 := h2 hV
    clear h2
    go_wp2_with fail
    go_ret
    exact ⟨rfl, rfl⟩
  · go_enter Tryz.func88, Tryz.ntmps88
    go_wp2_with fail
    refine (vt_index A n cap zs _ h).mono ?_
    rintro e w1 ⟨r, rfl, h1, _, rfl⟩
    have h3 := h1 hV
    subst h3
    clear h1
    go_wp2_with fail
    go_ret
    exact ⟨rfl, rfl⟩

/-- The row behind its first element. -/
theorem IRow.tail {w : World} {ad : Addr} {n : Nat} {zs : List Int} (h : IRow w (some ad) n zs) (hn : 1 ≤ n) (c : Nat) (hc : n ≤ c) : IRow w (if c = 1 then some ad else some (ad.add 1)) (n - 1) zs.tail := by
  refine ⟨by rw [List.length_tail, h.1], by have := h.2.1; omega, fun z hz => h.2.2.1 z (List.mem_of_mem_tail hz), ?_⟩
  have hd := h.2.2.2.drop_ 1
  rw [← List.map_drop, List.drop_one] at hd
  split
  · have : zs.tail = [] := List.eq_nil_of_length_eq_zero (by rw [List.length_tail, h.1]; omega)
    rw [this]
    exact Rd.nil
  · exact hd

set_option maxHeartbeats 1000000 in
theorem validTerms_any (A : Option Addr) (n cap : Nat) (zs : List Int) (w : World) (h : IRow w A n zs) (hcap : n ≤ cap) :
    Calls Tryz.prog 44 #[.slice A n cap] w fun e w' => e = .returned (.bool (trmB zs)) ∧ w = w' := by
  have hbd := h.bd
  have hlen := h.len
  by_cases hn : 1 ≤ n ∧ n ≤ 60
  · obtain ⟨hn1, hn2⟩ := hn
    obtain ⟨ad, z, rfl, hz, z1, z2, hc⟩ := h.at_ (k := 0) (by omega)
    rw [addr_nil] at hc
    have hi : inB (n : Int) 1 60 = true := inB_t (by omega) (by omega)
    cases hb : inB z (-1000000000) 1000000000
    · rw [show trmB zs = false from by unfold trmB; rw [allK_f trmE zs 0 0 z hz hb]; simp]
      clear hz hlen
      go_enter Tryz.func44, Tryz.ntmps44
      go_wp2_with (first | (go_at_call 87; go_in) | (go_at_call 78; refine (within_any _ _ _ _).mono ?_; rintro e w1 ⟨rfl, rfl⟩))
      go_ret
      exact ⟨rfl, rfl⟩
    · have ht := h.tail hn1 cap hcap
      have hv : trmB zs = allK posE 0 zs.tail := by
        unfold trmB
        rw [hlen, hi, Bool.true_and]
        match zs, hz with
        | y :: r, hz =>
          simp at hz; subst hz
          show (trmE 0 y && allK trmE 1 r) = allK posE 0 r
          rw [show trmE 0 y = true from hb, Bool.true_and]
          cases hp : allK posE 0 r
          · cases ht : allK trmE 1 r
            · rfl
            · exfalso
              have : allK posE 0 r = true := allK_t posE r 0 fun k z hk => by
                have := allK_at trmE r 1 k z ht hk
                unfold trmE at this
                rw [if_neg (by omega)] at this
                exact this
              rw [this] at hp; cases hp
          · exact allK_t trmE r 1 fun k z hk => by
              have := allK_at posE r 0 k z hp hk
              unfold trmE
              rw [if_neg (by omega)]
              exact this
      rw [hv]
      clear hv hz hlen h
      by_cases hc1 : cap = 1
      · obtain rfl : n = 1 := by omega
        subst hc1
        have ht' : IRow w (some ad) 0 zs.tail := by simpa using ht
        clear ht
        go_enter Tryz.func44, Tryz.ntmps44
        go_wp2_with (first | (go_at_call 87; go_in) | (go_at_call 78; refine (within_any _ _ _ _).mono ?_; rintro e w1 ⟨rfl, rfl⟩) | (go_at_call 88; refine (vt_contains (some ad) 0 _ zs.tail _ ht').mono ?_; rintro e w1 ⟨rfl, rfl⟩))
        go_ret
        exact ⟨ret_bool (by simp), rfl⟩
      · have ht' : IRow w (some ⟨ad.block, ad.off + 1, none⟩) (n - 1) zs.tail := by rw [if_neg hc1] at ht; exact ht
        clear ht
        go_enter Tryz.func44, Tryz.ntmps44
        go_wp2_with (first | (go_at_call 87; go_in) | (go_at_call 78; refine (within_any _ _ _ _).mono ?_; rintro e w1 ⟨rfl, rfl⟩) | (go_at_call 88; refine (vt_contains (some ⟨ad.block, ad.off + 1, none⟩) (n - 1) _ zs.tail _ ht').mono ?_; rintro e w1 ⟨rfl, rfl⟩))
        go_ret
        exact ⟨ret_bool (by simp), rfl⟩
  · rw [show trmB zs = false from by unfold trmB; rw [hlen, inB_f (by omega)]; rfl]
    have hi : inB (n : Int) 1 60 = false := inB_f (by omega)
    clear hn hlen
    go_enter Tryz.func44, Tryz.ntmps44
    go_wp2_with (first | (go_at_call 87; go_in) | (go_at_call 78; refine (within_any _ _ _ _).mono ?_; rintro e w1 ⟨rfl, rfl⟩))
    go_ret
    exact ⟨rfl, rfl⟩

set_option maxHeartbeats 1600000 in
theorem l03Ok_any (A : Option Addr) (n cap : Nat) (zs : List Int) (w : World) (h : IRow w A n zs) :
    Calls Tryz.prog 43 #[.slice A n cap] w fun e w' => e = .returned (.bool (trmB zs)) ∧ w = w' := by
  have hbd := h.bd
  have hlen := h.len
  have Hl := Lib.hid hlen
  have hp : trmB zs = (inB (n : Int) 1 60 && allK trmE 0 zs) := by unfold trmB; rw [hlen]
  rw [hp]; clear hp
  clear hlen
  have hw := Lib.hid h; clear h
  obtain ⟨V, hV⟩ : ∃ V, V = allK trmE 0 zs := ⟨_, rfl⟩
  rw [← hV]
  have HV := Lib.hid hV; clear hV
  go_enter Tryz.func43, Tryz.ntmps43
  go_wp2
  go_loop [3] (fun i => ∃ k : Nat, k ≤ n ∧ i = .int .i64 k ∧ Hid (Upto trmE zs k)) (fun i => n - (intOf i).toNat)
  case atStart => exact ⟨0, Nat.zero_le _, rfl, Upto.zero _ _⟩
  case round =>
    obtain ⟨k, hk, rfl, HU⟩ := hrel
    by_cases hlt : k < n
    · obtain ⟨ad, z, rfl, hz, z1, z2, hc⟩ := hw.out.at_ hlt
      have HZ := Lib.hid hz; clear hz
      rcases (by omega : k ≤ 0 ∨ 1 ≤ k) with a1 | a1
      · have he : trmE k z = inB z (-1000000000) 1000000000 := by unfold trmE; rw [(if_pos (by omega))]
        have He := Lib.hid he; clear he
        try have hc0 : w.cell? ad = some (.int .i64 z) := by (have h0 : k = 0 := by omega); rw [h0, addr_nil] at hc; exact hc
        cases hb : inB z (-1000000000) 1000000000
        · go_wp2_with (go_at_call 86; refine (l00In_any _ _ _ _).mono ?_; rintro e w1 ⟨rfl, rfl⟩)
          go_ret
          exact ⟨ret_bool (by rw [HV.out, allK_f _ zs 0 k z HZ.out (by rw [Nat.zero_add, He.out]; exact hb)]; simp), rfl⟩
        · go_wp2_with (go_at_call 86; refine (l00In_any _ _ _ _).mono ?_; rintro e w1 ⟨rfl, rfl⟩)
          go_round
          case rel => exact ⟨k + 1, by omega, by go_num, HU.out.step HZ.out (by rw [He.out]; exact hb)⟩
          case measure => simp [intOf]; omega
      · have he : trmE k z = inB z 1 1000000000 := by unfold trmE; rw [(if_neg (by omega))]
        have He := Lib.hid he; clear he
        try have hc0 : w.cell? ad = some (.int .i64 z) := by (have h0 : k = 0 := by omega); rw [h0, addr_nil] at hc; exact hc
        cases hb : inB z 1 1000000000
        · go_wp2_with (go_at_call 86; refine (l00In_any _ _ _ _).mono ?_; rintro e w1 ⟨rfl, rfl⟩)
          go_ret
          exact ⟨ret_bool (by rw [HV.out, allK_f _ zs 0 k z HZ.out (by rw [Nat.zero_add, He.out]; exact hb)]; simp), rfl⟩
        · go_wp2_with (go_at_call 86; refine (l00In_any _ _ _ _).mono ?_; rintro e w1 ⟨rfl, rfl⟩)
          go_round
          case rel => exact ⟨k + 1, by omega, by go_num, HU.out.step HZ.out (by rw [He.out]; exact hb)⟩
          case measure => simp [intOf]; omega
    · obtain rfl : n = k := by omega
      go_wp2_with (go_at_call 86; refine (l00In_any _ _ _ _).mono ?_; rintro e w1 ⟨rfl, rfl⟩)
      go_ret
      exact ⟨ret_bool (by rw [HV.out, HU.out.all (by have := Hl.out; omega), Bool.and_true]), rfl⟩

theorem specValidTerms_any (A : Option Addr) (n cap : Nat) (zs : List Int) (w : World) (h : IRow w A n zs) :
    Calls Tryz.prog 8 #[.slice A n cap] w fun e w' => e = .returned (.bool (trmB zs)) ∧ w = w' := by
  go_enter Tryz.func8, Tryz.ntmps8
  go_wp2_with fail
  refine (l03Ok_any A n cap zs _ h).mono ?_
  rintro e w1 ⟨rfl, rfl⟩
  go_wp2_with fail
  go_ret
  exact ⟨rfl, rfl⟩
end Go.Proofs.YtlpglibnjmjjkaaGreatDoor
namespace Go.Proofs.YtlpglibnjmjjkaaGreatDoor
open Go.RowKit
set_option linter.unusedVariables false
attribute [local go_sem ↓] Go.wp_at_zero Go.wp_at_succ

theorem tdiv_bd (a b : Int) : (a.tdiv b).natAbs ≤ a.natAbs := by rw [Int.natAbs_tdiv]; exact Nat.div_le_self _ _
theorem gcd_pos {a b : Int} (h : b < 0 ∨ 0 < b) : 1 ≤ Int.gcd a b := Int.gcd_pos_of_ne_zero_right _ (by omega)

/-- The plain fraction that is equal to num / den, and a code. -/
def plG (num den : Int) : Int := if den < 0 then -(Int.gcd num den : Int) else (Int.gcd num den : Int)
def plR (num den : Int) : Int × Int × Int :=
  if vfB (num.tdiv (plG num den)) (den.tdiv (plG num den)) = true then (num.tdiv (plG num den), den.tdiv (plG num den), 0) else (0, 0, 5)
theorem plR_t {num den : Int} (h : vfB (num.tdiv (plG num den)) (den.tdiv (plG num den)) = true) : plR num den = (num.tdiv (plG num den), den.tdiv (plG num den), 0) := if_pos h
theorem plR_f {num den : Int} (h : vfB (num.tdiv (plG num den)) (den.tdiv (plG num den)) = false) : plR num den = (0, 0, 5) := if_neg (by rw [h]; decide)

theorem plR_eq {num den d : Int} (hd : plG num den = d) : plR num den = if vfB (num.tdiv d) (den.tdiv d) = true then (num.tdiv d, den.tdiv d, 0) else (0, 0, 5) := by subst hd; rfl

set_option maxHeartbeats 1600000 in
theorem plainOf_any (num den : Int) (w : World) (h1 : -9223372036854775807 ≤ num) (h2 : num ≤ 9223372036854775807) (h3 : -9223372036854775807 ≤ den) (h4 : den ≤ 9223372036854775807) (h5 : den < 0 ∨ 0 < den) :
    Calls Tryz.prog 113 #[.int .i64 num, .int .i64 den] w fun e w' => e = .returned (.tuple #[.agg #[.int .i64 (plR num den).1, .int .i64 (plR num den).2.1], .int .i64 (plR num den).2.2]) ∧ Below w.heap.size w w' := by
  have hg := gcd_pos (a := num) h5
  have hgle : Int.gcd num den ≤ den.natAbs := Int.gcd_le_natAbs_right num (by omega)
  have hc := fun w => gcd_any num den w h1 h2 h3 h4
  obtain ⟨g, hgd⟩ : ∃ g, g = Int.gcd num den := ⟨_, rfl⟩
  have hG : plG num den = if den < 0 then -(g : Int) else (g : Int) := by unfold plG; rw [← hgd]
  rw [← hgd] at hg hgle
  simp only [← hgd] at hc
  have Hc := Lib.hid hc
  clear hgd hc
  rcases h5 with h5 | h5
  · have hX : num.tdiv (-(g:Int)) = (-(num.tdiv (g:Int))) := by first | rfl | exact Int.tdiv_neg num (g : Int)
    have hY : den.tdiv (-(g:Int)) = (-(den.tdiv (g:Int))) := by first | rfl | exact Int.tdiv_neg den (g : Int)
    rw [plR_eq (hG.trans (if_pos (by omega))), hX, hY]
    have b1 := tdiv_bd num (g : Int)
    have b2 := tdiv_bd den (g : Int)
    have b1a : -9223372036854775807 ≤ (-(num.tdiv (g:Int))) := by omega
    have b1b : (-(num.tdiv (g:Int))) ≤ 9223372036854775807 := by omega
    have b2a : -9223372036854775807 ≤ (-(den.tdiv (g:Int))) := by omega
    have b2b : (-(den.tdiv (g:Int))) ≤ 9223372036854775807 := by omega
    have hd0 : (-(g:Int)) < 0 ∨ 0 < (-(g:Int)) := by omega
    have hg1 : 1 ≤ (g : Int) := by omega
    have hg2 : (g : Int) ≤ 9223372036854775807 := by omega
    clear b1 b2 hG hg hgle hX hY
    cases hv : vfB (-(num.tdiv (g:Int))) (-(den.tdiv (g:Int)))
    · simp only [Bool.false_eq_true, if_false]
      go_enter Tryz.func113, Tryz.ntmps113
      go_wp2_with (first | (go_at_call 84; refine (Hc.out _).mono ?_; rintro e w1 ⟨rfl, m, rfl⟩))
      go_region
      go_wp2_with fail
      refine (validFraction_any _ _ _).mono ?_
      rintro e w2 ⟨rfl, hb2⟩
      obtain ⟨hc2, hf2, hs2⟩ := keepc hb2
      have hl2 : w.heap.size + 1 < w2.heap.size := by have := hb2.size; simp at this; omega
      have hl2' : w.heap.size < w2.heap.size := by omega
      have hB : Below w.heap.size w w2 := Below.trans (((Below.trans ((Below.refl _ _).alloc (Nat.le_refl _) _) (below_drewN _ _ _)).alloc (by simp) _)) (hb2.mono (by simp; omega))
      have z0 : w2.cell? ⟨w.heap.size, 0, none⟩ = some (.int .i64 0) := by rw [hc2 _ _ (by simp; omega)]; simp [go_sem]
      have z1 : w2.cell? ⟨w.heap.size, 1, none⟩ = some (.int .i64 0) := by rw [hc2 _ _ (by simp; omega)]; simp [go_sem]
      go_wp2_with fail
      exact bodyPost_ret (v := .tuple #[.agg #[.int .i64 0, .int .i64 0], .int .i64 5]) (by simp [results, Tryz.results113, go_sem, pair_set z0 z1]) rfl ⟨rfl, (hB.setCell (p := ⟨w.heap.size, 0, none⟩) (Nat.le_refl _) _).setCell (p := ⟨w.heap.size, 1, none⟩) (Nat.le_refl _) _⟩
    · simp only [if_true]
      go_enter Tryz.func113, Tryz.ntmps113
      go_wp2_with (first | (go_at_call 84; refine (Hc.out _).mono ?_; rintro e w1 ⟨rfl, m, rfl⟩))
      go_region
      go_wp2_with fail
      refine (validFraction_any _ _ _).mono ?_
      rintro e w2 ⟨rfl, hb2⟩
      obtain ⟨hc2, hf2, hs2⟩ := keepc hb2
      have hl2 : w.heap.size + 1 < w2.heap.size := by have := hb2.size; simp at this; omega
      have hl2' : w.heap.size < w2.heap.size := by omega
      have hB : Below w.heap.size w w2 := Below.trans (((Below.trans ((Below.refl _ _).alloc (Nat.le_refl _) _) (below_drewN _ _ _)).alloc (by simp) _)) (hb2.mono (by simp; omega))
      have z0 : w2.cell? ⟨w.heap.size, 0, none⟩ = some (.int .i64 0) := by rw [hc2 _ _ (by simp; omega)]; simp [go_sem]
      have z1 : w2.cell? ⟨w.heap.size, 1, none⟩ = some (.int .i64 0) := by rw [hc2 _ _ (by simp; omega)]; simp [go_sem]
      go_wp2_with fail
      exact bodyPost_ret (v := .tuple #[.agg #[.int .i64 (-(num.tdiv (g:Int))), .int .i64 (-(den.tdiv (g:Int)))], .int .i64 0]) (by simp [results, Tryz.results113, go_sem, pair_set z0 z1]) rfl ⟨rfl, (hB.setCell (p := ⟨w.heap.size, 0, none⟩) (Nat.le_refl _) _).setCell (p := ⟨w.heap.size, 1, none⟩) (Nat.le_refl _) _⟩
  · have hX : num.tdiv (g:Int) = (num.tdiv (g:Int)) := by first | rfl | exact Int.tdiv_neg num (g : Int)
    have hY : den.tdiv (g:Int) = (den.tdiv (g:Int)) := by first | rfl | exact Int.tdiv_neg den (g : Int)
    rw [plR_eq (hG.trans (if_neg (by omega))), hX, hY]
    have b1 := tdiv_bd num (g : Int)
    have b2 := tdiv_bd den (g : Int)
    have b1a : -9223372036854775807 ≤ (num.tdiv (g:Int)) := by omega
    have b1b : (num.tdiv (g:Int)) ≤ 9223372036854775807 := by omega
    have b2a : -9223372036854775807 ≤ (den.tdiv (g:Int)) := by omega
    have b2b : (den.tdiv (g:Int)) ≤ 9223372036854775807 := by omega
    have hd0 : (g:Int) < 0 ∨ 0 < (g:Int) := by omega
    have hg1 : 1 ≤ (g : Int) := by omega
    have hg2 : (g : Int) ≤ 9223372036854775807 := by omega
    clear b1 b2 hG hg hgle hX hY
    cases hv : vfB (num.tdiv (g:Int)) (den.tdiv (g:Int))
    · simp only [Bool.false_eq_true, if_false]
      go_enter Tryz.func113, Tryz.ntmps113
      go_wp2_with (first | (go_at_call 84; refine (Hc.out _).mono ?_; rintro e w1 ⟨rfl, m, rfl⟩))
      go_region
      go_wp2_with fail
      refine (validFraction_any _ _ _).mono ?_
      rintro e w2 ⟨rfl, hb2⟩
      obtain ⟨hc2, hf2, hs2⟩ := keepc hb2
      have hl2 : w.heap.size + 1 < w2.heap.size := by have := hb2.size; simp at this; omega
      have hl2' : w.heap.size < w2.heap.size := by omega
      have hB : Below w.heap.size w w2 := Below.trans (((Below.trans ((Below.refl _ _).alloc (Nat.le_refl _) _) (below_drewN _ _ _)).alloc (by simp) _)) (hb2.mono (by simp; omega))
      have z0 : w2.cell? ⟨w.heap.size, 0, none⟩ = some (.int .i64 0) := by rw [hc2 _ _ (by simp; omega)]; simp [go_sem]
      have z1 : w2.cell? ⟨w.heap.size, 1, none⟩ = some (.int .i64 0) := by rw [hc2 _ _ (by simp; omega)]; simp [go_sem]
      go_wp2_with fail
      exact bodyPost_ret (v := .tuple #[.agg #[.int .i64 0, .int .i64 0], .int .i64 5]) (by simp [results, Tryz.results113, go_sem, pair_set z0 z1]) rfl ⟨rfl, (hB.setCell (p := ⟨w.heap.size, 0, none⟩) (Nat.le_refl _) _).setCell (p := ⟨w.heap.size, 1, none⟩) (Nat.le_refl _) _⟩
    · simp only [if_true]
      go_enter Tryz.func113, Tryz.ntmps113
      go_wp2_with (first | (go_at_call 84; refine (Hc.out _).mono ?_; rintro e w1 ⟨rfl, m, rfl⟩))
      go_region
      go_wp2_with fail
      refine (validFraction_any _ _ _).mono ?_
      rintro e w2 ⟨rfl, hb2⟩
      obtain ⟨hc2, hf2, hs2⟩ := keepc hb2
      have hl2 : w.heap.size + 1 < w2.heap.size := by have := hb2.size; simp at this; omega
      have hl2' : w.heap.size < w2.heap.size := by omega
      have hB : Below w.heap.size w w2 := Below.trans (((Below.trans ((Below.refl _ _).alloc (Nat.le_refl _) _) (below_drewN _ _ _)).alloc (by simp) _)) (hb2.mono (by simp; omega))
      have z0 : w2.cell? ⟨w.heap.size, 0, none⟩ = some (.int .i64 0) := by rw [hc2 _ _ (by simp; omega)]; simp [go_sem]
      have z1 : w2.cell? ⟨w.heap.size, 1, none⟩ = some (.int .i64 0) := by rw [hc2 _ _ (by simp; omega)]; simp [go_sem]
      go_wp2_with fail
      exact bodyPost_ret (v := .tuple #[.agg #[.int .i64 (num.tdiv (g:Int)), .int .i64 (den.tdiv (g:Int))], .int .i64 0]) (by simp [results, Tryz.results113, go_sem, pair_set z0 z1]) rfl ⟨rfl, (hB.setCell (p := ⟨w.heap.size, 0, none⟩) (Nat.le_refl _) _).setCell (p := ⟨w.heap.size, 1, none⟩) (Nat.le_refl _) _⟩

/-- -1, 0 or 1. -/
def cmpI (x y : Int) : Int := if x < y then -1 else if y < x then 1 else 0

theorem neg_quo (a b : Int) (ha : a < 0) (hb : 1 ≤ b) : a.tmod b ≤ 0 ∧ -b < a.tmod b ∧ a.tdiv b ≤ 0 := by
  have e1 : a.tmod b = -((-a) % b) := by rw [← Int.tmod_eq_emod_of_nonneg (by omega), Int.neg_tmod]; omega
  have e2 : a.tdiv b = -((-a) / b) := by rw [← Int.tdiv_eq_ediv_of_nonneg (by omega), Int.neg_tdiv]; omega
  have h1 := Int.emod_nonneg (-a) (show b ≠ 0 by omega)
  have h2 := Int.emod_lt_of_pos (-a) (show 0 < b by omega)
  have h3 : 0 ≤ (-a) / b := Int.ediv_nonneg (by omega) (by omega)
  omega
theorem floor_neg (a b : Int) (ha : a < 0) (hb : 1 ≤ b) : a / b = if a.tmod b = 0 then a.tdiv b else a.tdiv b - 1 := by
  have h1 := Int.mul_tdiv_add_tmod a b
  obtain ⟨h2, h3, _⟩ := neg_quo a b ha hb
  have e : ∀ q r : Int, b * q + r = a → 0 ≤ r → r < b → a / b = q := fun q r he h0 hb' =>
    ((Int.ediv_emod_unique (a := a) (r := r) (q := q) (b := b) (by omega)).2 ⟨by rw [Int.add_comm]; exact he, h0, hb'⟩).1
  split
  · rename_i h0
    exact e _ (a.tmod b) h1 (by omega) (by omega)
  · refine e _ (a.tmod b + b) ?_ (by omega) (by omega)
    rw [Int.mul_sub, Int.mul_one]; omega

set_option maxHeartbeats 800000 in
theorem floorDiv_any (a b : Int) (w : World) (h1 : -9223372036854775807 ≤ a) (h2 : a ≤ 9223372036854775807) (h3 : 1 ≤ b) (h4 : b ≤ 9223372036854775807) :
    Calls Tryz.prog 85 #[.int .i64 a, .int .i64 b] w fun e w' => e = .returned (.int .i64 (a / b)) ∧ w = w' := by
  by_cases ha : 0 ≤ a
  · have hda : decide (a < 0) = false := decide_eq_false (by omega)
    have hdb : decide (b < 0) = false := decide_eq_false (by omega)
    have q0 : 0 ≤ a / b := Int.ediv_nonneg ha (by omega)
    have q1 : a / b ≤ a := Int.ediv_le_self b ha
    have r0 : 0 ≤ a % b := Int.emod_nonneg a (by omega)
    have r1 : a % b < b := Int.emod_lt_of_pos a (by omega)
    by_cases hr : a % b = 0
    · have hr' : (a % b != 0) = false := by rw [hr]; rfl
      have hr2 : a % b ≤ 0 := by omega
      clear hr
      go_enter Tryz.func85, Tryz.ntmps85
      go_wp2
      go_ret
      exact ⟨rfl, rfl⟩
    · have hr' : (a % b != 0) = true := by rw [bne_iff_ne]; exact hr
      have hr2 : 1 ≤ a % b := by omega
      clear hr
      go_enter Tryz.func85, Tryz.ntmps85
      go_wp2
      go_ret
      exact ⟨rfl, rfl⟩
  · have hda : decide (a < 0) = true := decide_eq_true (by omega)
    have hdb : decide (b < 0) = false := decide_eq_false (by omega)
    have hn := floor_neg a b (by omega) h3
    have b1 := tdiv_bd a b
    have q0 : -9223372036854775807 ≤ a.tdiv b := by omega
    obtain ⟨r0, r1, q1⟩ := neg_quo a b (by omega) h3
    by_cases hr : a.tmod b = 0
    · rw [hn, if_pos hr]
      have hr' : (a.tmod b != 0) = false := by rw [hr]; rfl
      have hr2 : 0 ≤ a.tmod b := by omega
      clear hr hn b1
      go_enter Tryz.func85, Tryz.ntmps85
      go_wp2
      go_ret
      exact ⟨rfl, rfl⟩
    · rw [hn, if_neg hr]
      have hr' : (a.tmod b != 0) = true := by rw [bne_iff_ne]; exact hr
      have hr2 : a.tmod b ≤ -1 := by omega
      clear hr hn b1
      go_enter Tryz.func85, Tryz.ntmps85
      go_wp2
      go_ret
      exact ⟨rfl, rfl⟩
set_option maxHeartbeats 800000 in
theorem l02Floor_any (a b : Int) (w : World) (h1 : -9223372036854775807 ≤ a) (h2 : a ≤ 9223372036854775807) (h3 : 1 ≤ b) (h4 : b ≤ 9223372036854775807) :
    Calls Tryz.prog 126 #[.int .i64 a, .int .i64 b] w fun e w' => e = .returned (.int .i64 (a / b)) ∧ w = w' := by
  by_cases ha : 0 ≤ a
  · have hda : decide (a < 0) = false := decide_eq_false (by omega)
    have hdb : decide (b < 0) = false := decide_eq_false (by omega)
    have q0 : 0 ≤ a / b := Int.ediv_nonneg ha (by omega)
    have q1 : a / b ≤ a := Int.ediv_le_self b ha
    have r0 : 0 ≤ a % b := Int.emod_nonneg a (by omega)
    have r1 : a % b < b := Int.emod_lt_of_pos a (by omega)
    by_cases hr : a % b = 0
    · have hr' : (a % b != 0) = false := by rw [hr]; rfl
      have hr2 : a % b ≤ 0 := by omega
      clear hr
      go_enter Tryz.func126, Tryz.ntmps126
      go_wp2
      go_ret
      exact ⟨rfl, rfl⟩
    · have hr' : (a % b != 0) = true := by rw [bne_iff_ne]; exact hr
      have hr2 : 1 ≤ a % b := by omega
      clear hr
      go_enter Tryz.func126, Tryz.ntmps126
      go_wp2
      go_ret
      exact ⟨rfl, rfl⟩
  · have hda : decide (a < 0) = true := decide_eq_true (by omega)
    have hdb : decide (b < 0) = false := decide_eq_false (by omega)
    have hn := floor_neg a b (by omega) h3
    have b1 := tdiv_bd a b
    have q0 : -9223372036854775807 ≤ a.tdiv b := by omega
    obtain ⟨r0, r1, q1⟩ := neg_quo a b (by omega) h3
    by_cases hr : a.tmod b = 0
    · rw [hn, if_pos hr]
      have hr' : (a.tmod b != 0) = false := by rw [hr]; rfl
      have hr2 : 0 ≤ a.tmod b := by omega
      clear hr hn b1
      go_enter Tryz.func126, Tryz.ntmps126
      go_wp2
      go_ret
      exact ⟨rfl, rfl⟩
    · rw [hn, if_neg hr]
      have hr' : (a.tmod b != 0) = true := by rw [bne_iff_ne]; exact hr
      have hr2 : a.tmod b ≤ -1 := by omega
      clear hr hn b1
      go_enter Tryz.func126, Tryz.ntmps126
      go_wp2
      go_ret
      exact ⟨rfl, rfl⟩
end Go.Proofs.YtlpglibnjmjjkaaGreatDoor
namespace Go.Proofs.YtlpglibnjmjjkaaGreatDoor
open Go.RowKit
set_option linter.unusedVariables false
attribute [local go_sem ↓] Go.wp_at_zero Go.wp_at_succ

/-- The short terms of a quotient. -/
def expN (a : Int) (b : Nat) : List Int := if h : b = 0 then [] else (a / (b : Int)) :: expN b (a % (b : Int)).toNat
termination_by b
decreasing_by
  have := Int.emod_lt_of_pos a (show (0 : Int) < b by omega)
  have := Int.emod_nonneg a (show (b : Int) ≠ 0 by omega)
  omega
theorem expN_zero (a : Int) : expN a 0 = [] := by rw [expN]; simp
theorem expN_pos {a : Int} {b : Nat} (h : 0 < b) : expN a b = (a / (b : Int)) :: expN b (a % (b : Int)).toNat := by rw [expN]; simp [show b ≠ 0 by omega]
theorem mod_bd (a : Int) {b : Nat} (h : 0 < b) : 0 ≤ a % (b : Int) ∧ a % (b : Int) < b :=
  ⟨Int.emod_nonneg a (by omega), Int.emod_lt_of_pos a (by omega)⟩
theorem quo_bd (a : Int) {b : Nat} (h : 0 < b) (h1 : -1000000000 ≤ a) (h2 : a ≤ 1000000000) : -1000000000 ≤ a / (b : Int) ∧ a / (b : Int) ≤ 1000000000 := by
  have hb : (0 : Int) < b := by omega
  refine ⟨(Int.le_ediv_iff_mul_le hb).2 ?_, ?_⟩
  · have : (1000000000 : Int) * 1 ≤ 1000000000 * b := Int.mul_le_mul_of_nonneg_left (by omega) (by omega)
    omega
  · rcases Int.lt_or_le a 0 with h' | h'
    · have := Int.ediv_neg_of_neg_of_pos h' hb; omega
    · have := Int.ediv_le_self (b : Int) h'; omega
theorem quo_mul (a : Int) {b : Nat} (h : 0 < b) : a - a / (b : Int) * b = a % (b : Int) := by
  have := Int.mul_ediv_add_emod a b
  rw [Int.mul_comm] at this; omega
theorem expN_len (b : Nat) : ∀ a, (expN a b).length ≤ b := by
  induction b using Nat.strongRecOn with
  | ind b ih =>
    intro a
    rcases Nat.eq_zero_or_pos b with h | h
    · subst h; rw [expN_zero]; exact Nat.le_refl _
    · rw [expN_pos h, List.length_cons]
      have := mod_bd a h
      have := ih (a % (b : Int)).toNat (by omega) b
      omega
theorem expN_rng (b : Nat) : ∀ a, -1000000000 ≤ a → a ≤ 1000000000 → b ≤ 1000000000 → ∀ z ∈ expN a b, -1000000000 ≤ z ∧ z ≤ 1000000000 := by
  induction b using Nat.strongRecOn with
  | ind b ih =>
    intro a h1 h2 h3 z hz
    rcases Nat.eq_zero_or_pos b with h | h
    · subst h; rw [expN_zero] at hz; cases hz
    · rw [expN_pos h, List.mem_cons] at hz
      have hm := mod_bd a h
      rcases hz with rfl | hz
      · exact quo_bd a h h1 h2
      · exact ih _ (by omega) b (by omega) (by omega) (by omega) z hz

set_option maxRecDepth 100000 in
set_option maxHeartbeats 1600000 in
theorem expand_any (p : Int) (d : Nat) (w : World) (h1 : -1000000000 ≤ p) (h2 : p ≤ 1000000000) (h3 : d ≤ 1000000000) :
    Calls Tryz.prog 42 #[.int .i64 p, .int .i64 (d : Int)] w fun e w' => RetI w.heap.size (expN p d) e w' ∧ Below w.heap.size w w' := by
  obtain ⟨i0, hi, hz0, hz1, hz2⟩ := info_parts info_i64
  go_enter Tryz.func42, Tryz.ntmps42
  go_wp2_with fail
  go_loopw [0, 1, 5] (fun u v l wr => ∃ (x : Int) (y j : Nat) (A : Option Addr) (c : Nat) (zs : List Int), u = .int .i64 x ∧ v = .int .i64 (y : Int) ∧ l = .slice A j c ∧ -1000000000 ≤ x ∧ x ≤ 1000000000 ∧ y ≤ 1000000000 ∧ j + y ≤ 1000000000 ∧
    wr.ownsRow w.heap.size 2 1 (.slice A j c) j (zs.map (Value.int .i64)) ∧ Hid (zs ++ expN x y = expN p d) ∧ Below w.heap.size w wr) (fun _ v _ _ => (intOf v).toNat)
  case atStart => exact ⟨p, d, 0, none, 0, [], rfl, rfl, rfl, h1, h2, h3, by omega, World.ownsRow_nil .., rfl, Below.refl _ _⟩
  case round =>
    obtain ⟨x, y, j, A, c, zs, rfl, rfl, rfl, x1, x2, y2, jy, hown, HE, hB⟩ := hrel
    have HO := Lib.hid hown
    have HF := Lib.hid hown.lt
    have hbase : w.heap.size ≤ wr.heap.size := hB.size
    clear hown
    by_cases hy : y = 0
    · have hy' : (y : Int) ≤ 0 := by omega
      have HY := Lib.hid hy
      clear hy
      go_wp2_with fail
      go_ret
      have he : zs = expN p d := by have := HE.out; rw [HY.out, expN_zero, List.append_nil] at this; exact this
      have hl := own_lenI HO.out
      subst hl
      refine ⟨⟨A, c, by rw [← he]; rfl, by rw [← he]; exact HO.out⟩, hB⟩
    · have hy1 : 1 ≤ (y : Int) := by omega
      have hp : 0 < y := by omega
      obtain ⟨q0, q1⟩ := quo_bd x hp x1 x2
      have hm := mod_bd x hp
      have hq := quo_mul x hp
      have s0 : 0 ≤ x - x / (y : Int) * y := by omega
      have s1 : x - x / (y : Int) * y < y := by omega
      have m0 : -9223372036854775807 ≤ x / (y : Int) * y := by omega
      have m1 : x / (y : Int) * y ≤ 9223372036854775807 := by omega
      have HQ := Lib.hid hq
      have HP := Lib.hid hp
      have hbn : ((y : Int) != 0) = true := by rw [bne_iff_ne]; omega
      clear hq hp hm hy
      go_wp2_with fail
      refine (floorDiv_any x (y : Int) _ (by omega) (by omega) (by omega) (by omega)).mono ?_
      rintro e w' ⟨rfl, rfl⟩
      go_wp2_with (first | (at_builtin; refine wpList_append_lies _ rfl (.tmp 12) (.tmp 14) 28 rfl w.heap.size 2 i0 (.int .i64 0) 1 8 Tryz.underlying28 hi hz0 hz1 hz2 rfl (by decide) _ j (zs.map (Value.int .i64)) (by rfl) (HO.out.alloc _) ⟨wr.heap.size, 0, none⟩ 1 1 [.int .i64 (x / (y : Int))] (by rfl) rfl ?cells (by simp [Value.oneCell']) (by decide) (by show j + 1 ≤ 9223372036854775807; omega) (by omega) (by simp; omega) (wr.heap.size + 1) (by simp) ?_; rotate_left; intro g cap1 wn hown1 hgrow hat hlt1))
      case cells => exact fun j u hu => newcell (by simp) hu
      go_roundw
      case rel =>
        refine ⟨y, (x % (y : Int)).toNat, j + 1, _, _, zs ++ [x / (y : Int)], rfl, ?_, rfl, by omega, by omega, ?_, ?_, by rw [List.map_append]; exact hown1, ?_, (hB.alloc hbase _).grown hgrow (by simp; omega) (fun k hk => (HF.out k hk).1)⟩
        · have := HQ.out; rw [this, Int.toNat_of_nonneg (mod_bd x HP.out).1]
        · have := mod_bd x HP.out; omega
        · have := mod_bd x HP.out; omega
        · rw [List.append_assoc, List.singleton_append, ← expN_pos HP.out]; exact HE.out
      case measure => simp [intOf]; omega

/-- The short terms of a plain fraction, and the code. -/
def expL (p q : Int) : List Int := if vfB p q = true then expN p q.toNat else []
def expC (p q : Int) : Int := if vfB p q = true then 0 else 1
theorem expL_len (p q : Int) : (expL p q).length ≤ 1000000000 := by
  unfold expL
  split
  · rename_i h
    have := vfB_iff.1 h
    have := expN_len q.toNat p
    omega
  · exact Nat.zero_le _
theorem expL_rng (p q : Int) : ∀ z ∈ expL p q, Rng z := by
  intro z hz
  unfold expL at hz
  split at hz
  · rename_i h
    have := vfB_iff.1 h
    have := expN_rng q.toNat p (by omega) (by omega) (by omega) z hz
    unfold Rng; omega
  · cases hz

theorem implExpand_any (p q : Int) (w : World) :
    Calls Tryz.prog 7 #[.agg #[.int .i64 p, .int .i64 q]] w fun e w' => ResI w.heap.size (expL p q) (expC p q) e w' ∧ Below w.heap.size w w' := by
  cases hv : vfB p q
  · rw [show expL p q = [] from if_neg (by simp [hv]), show expC p q = 1 from if_neg (by simp [hv])]
    go_enter Tryz.func7, Tryz.ntmps7
    go_wp2_with fail
    refine (validFraction_any p q _).mono ?_
    rintro e w1 ⟨rfl, hb1⟩
    obtain ⟨hc1, hf1, hs1⟩ := keepc hb1
    have hB1 : Below w.heap.size w w1 := Below.trans (by go_grown) (hb1.mono (by first | exact Nat.le_refl _ | (simp only [World.size_alloc]; omega)))
    try simp only [World.size_alloc] at hs1
    have hl1_0 : w.heap.size < w1.heap.size := by omega
    go_wp2_with fail
    go_ret2
    exact ⟨⟨none, 0, rfl, World.ownsRow_nil ..⟩, hB1⟩
  · rw [show expL p q = expN p q.toNat from if_pos hv, show expC p q = 0 from if_pos hv]
    obtain ⟨v1, v2, v3, v4, _⟩ := vfB_iff.1 hv
    obtain ⟨d, rfl⟩ := Int.eq_ofNat_of_zero_le (show 0 ≤ q by omega)
    rw [Int.toNat_natCast]
    go_enter Tryz.func7, Tryz.ntmps7
    go_wp2_with fail
    refine (validFraction_any p d _).mono ?_
    rintro e w1 ⟨rfl, hb1⟩
    obtain ⟨hc1, hf1, hs1⟩ := keepc hb1
    have hB1 : Below w.heap.size w w1 := Below.trans (by go_grown) (hb1.mono (by first | exact Nat.le_refl _ | (simp only [World.size_alloc]; omega)))
    try simp only [World.size_alloc] at hs1
    have hl1_0 : w.heap.size < w1.heap.size := by omega
    go_wp2_with fail
    refine (expand_any p d _ v3 v4 (by omega)).mono ?_
    rintro e w2 ⟨⟨A2, c2, rfl, ho2⟩, hb2⟩
    obtain ⟨hc2, hf2, hs2⟩ := keepc hb2
    have hB2 : Below w.heap.size w w2 := hB1.trans (hb2.mono (by have := hB1.size; omega))
    have hl2_0 : w.heap.size < w2.heap.size := by omega
    have HO := Lib.hid ho2
    clear ho2
    go_wp2_with fail
    go_ret2
    exact ⟨⟨A2, c2, rfl, own_base HO.out (by omega)⟩, hB2⟩
end Go.Proofs.YtlpglibnjmjjkaaGreatDoor
namespace Go.Proofs.YtlpglibnjmjjkaaGreatDoor
open Go.RowKit
set_option linter.unusedVariables false
attribute [local go_sem ↓] Go.wp_at_zero Go.wp_at_succ


set_option maxHeartbeats 800000 in
theorem l02Make_any (num den : Int) (w : World) (h1 : -9223372036854775807 ≤ num) (h2 : num ≤ 9223372036854775807) (h3 : 1 ≤ den) (h4 : den ≤ 9223372036854775807) :
    Calls Tryz.prog 83 #[.int .i64 num, .int .i64 den] w fun e w' => e = .returned (.agg #[.int .i64 (num.tdiv (Int.gcd num den : Nat)), .int .i64 (den.tdiv (Int.gcd num den : Nat))]) ∧ Below w.heap.size w w' := by
  have hg := gcd_pos (a := num) (.inr (show 0 < den by omega))
  have hgle : Int.gcd num den ≤ den.natAbs := Int.gcd_le_natAbs_right num (by omega)
  obtain ⟨d, rfl⟩ := Int.eq_ofNat_of_zero_le (show 0 ≤ den by omega)
  have hc : ∀ w, Calls Tryz.prog 114 #[.int .i64 (num.natAbs : Int), .int .i64 (d : Int)] w fun e w' => e = .returned (.int .i64 (Int.gcd num (d : Int) : Nat)) ∧ w = w' := fun w => l02Gcd_any num.natAbs d w (by omega) (by omega)
  obtain ⟨g, hgd⟩ : ∃ g, g = Int.gcd num (d : Int) := ⟨_, rfl⟩
  rw [← hgd] at hg hgle ⊢
  simp only [← hgd] at hc
  have Hc := Lib.hid hc
  have b1 := tdiv_bd num (g : Int)
  have b2 := tdiv_bd (d : Int) (g : Int)
  have b1a : -9223372036854775807 ≤ num.tdiv (g : Int) := by omega
  have b1b : num.tdiv (g : Int) ≤ 9223372036854775807 := by omega
  have b2a : 0 ≤ (d : Int).tdiv (g : Int) := Int.tdiv_nonneg (by omega) (by omega)
  have b2b : (d : Int).tdiv (g : Int) ≤ 9223372036854775807 := by omega
  have b3a : 0 ≤ (d : Int) / (g : Int) := Int.ediv_nonneg (by omega) (by omega)
  have b3b : (d : Int) / (g : Int) ≤ 9223372036854775807 := by have := Int.ediv_le_self (g : Int) (show 0 ≤ (d : Int) by omega); omega
  have hg1 : 1 ≤ (g : Int) := by omega
  clear hgd hc b1 b2 hg
  go_enter Tryz.func83, Tryz.ntmps83
  go_wp2_with (first | (go_at_call 55; refine (l02Size_any _ _ (by omega) (by omega)).mono ?_; rintro e w1 ⟨rfl, rfl⟩) | (go_at_call 114; refine (Hc.out _).mono ?_; rintro e w1 ⟨rfl, rfl⟩))
  go_region
  go_wp2
  exact bodyPost_ret (v := .agg #[.int .i64 (num.tdiv (g : Int)), .int .i64 ((d : Int).tdiv (g : Int))]) (by simp [results, Tryz.results83, go_sem]) rfl ⟨rfl, by go_grown⟩

set_option maxHeartbeats 1600000 in
theorem l02Full_any (num den : Int) (w : World) (h1 : -9223372036854775807 ≤ num) (h2 : num ≤ 9223372036854775807) (h3 : -9223372036854775807 ≤ den) (h4 : den ≤ 9223372036854775807) (h5 : den < 0 ∨ 0 < den) :
    Calls Tryz.prog 127 #[.int .i64 num, .int .i64 den] w fun e w' => e = .returned (.tuple #[.agg #[.int .i64 (plR num den).1, .int .i64 (plR num den).2.1], .int .i64 (plR num den).2.2]) ∧ Below w.heap.size w w' := by
  have hG : plG num den = if den < 0 then -(Int.gcd num den : Int) else (Int.gcd num den : Int) := rfl
  rcases h5 with h5 | h5
  · have hm := fun w => l02Make_any (-num) (-den) w (by omega) (by omega) (by omega) (by omega)
    have hgg : Int.gcd (-num) (-den) = Int.gcd num den := by simp
    have hX : num.tdiv (-(Int.gcd num den:Int)) = ((-num)).tdiv (Int.gcd num den : Int) := by first | rfl | rw [Int.tdiv_neg, Int.neg_tdiv]
    have hY : den.tdiv (-(Int.gcd num den:Int)) = ((-den)).tdiv (Int.gcd num den : Int) := by first | rfl | rw [Int.tdiv_neg, Int.neg_tdiv]
    rw [plR_eq (hG.trans (if_pos (by omega))), hX, hY]
    rw [hgg] at hm
    obtain ⟨X, hXX⟩ : ∃ X, X = ((-num)).tdiv (Int.gcd num den : Int) := ⟨_, rfl⟩
    obtain ⟨Y, hYY⟩ : ∃ Y, Y = ((-den)).tdiv (Int.gcd num den : Int) := ⟨_, rfl⟩
    rw [← hXX, ← hYY]
    simp only [← hXX, ← hYY] at hm
    have Hm := Lib.hid hm
    clear hG hX hY hXX hYY hgg hm
    cases hv : vfB X Y
    · simp only [Bool.false_eq_true, if_false]
      go_enter Tryz.func127, Tryz.ntmps127
      go_wp2_with fail
      refine (Hm.out _).mono ?_
      rintro e w1 ⟨rfl, hb1⟩
      obtain ⟨hc1, hf1, hs1⟩ := keepc hb1
      have hl1 : w.heap.size < w1.heap.size := by simp at hs1; omega
      have hB1 : Below w.heap.size w w1 := Below.trans (by go_grown) (hb1.mono (by simp))
      go_wp2_with fail
      refine (l02Ok_any _ _ _).mono ?_
      rintro e w2 ⟨rfl, hb2⟩
      obtain ⟨hc2, hf2, hs2⟩ := keepc hb2
      have hl2 : w.heap.size < w2.heap.size := by have := hb2.size; simp at this; omega
      have hl3 : w1.heap.size < w2.heap.size := by have := hb2.size; simp at this; omega
      have hB : Below w.heap.size w w2 := (hB1.alloc (by omega) _).trans (hb2.mono (by simp; omega))
      have z0 : w2.cell? ⟨w.heap.size, 0, none⟩ = some (.int .i64 0) := by rw [hc2 _ _ (by simp; omega)]; simp [go_sem, hc1, hl1]
      have z1 : w2.cell? ⟨w.heap.size, 1, none⟩ = some (.int .i64 0) := by rw [hc2 _ _ (by simp; omega)]; simp [go_sem, hc1, hl1]
      go_wp2_with fail
      exact bodyPost_ret (v := .tuple #[.agg #[.int .i64 0, .int .i64 0], .int .i64 5]) (by simp [results, Tryz.results127, go_sem, pair_set z0 z1]) rfl ⟨rfl, (hB.setCell (p := ⟨w.heap.size, 0, none⟩) (Nat.le_refl _) _).setCell (p := ⟨w.heap.size, 1, none⟩) (Nat.le_refl _) _⟩
    · simp only [if_true]
      go_enter Tryz.func127, Tryz.ntmps127
      go_wp2_with fail
      refine (Hm.out _).mono ?_
      rintro e w1 ⟨rfl, hb1⟩
      obtain ⟨hc1, hf1, hs1⟩ := keepc hb1
      have hl1 : w.heap.size < w1.heap.size := by simp at hs1; omega
      have hB1 : Below w.heap.size w w1 := Below.trans (by go_grown) (hb1.mono (by simp))
      go_wp2_with fail
      refine (l02Ok_any _ _ _).mono ?_
      rintro e w2 ⟨rfl, hb2⟩
      obtain ⟨hc2, hf2, hs2⟩ := keepc hb2
      have hl2 : w.heap.size < w2.heap.size := by have := hb2.size; simp at this; omega
      have hl3 : w1.heap.size < w2.heap.size := by have := hb2.size; simp at this; omega
      have hB : Below w.heap.size w w2 := (hB1.alloc (by omega) _).trans (hb2.mono (by simp; omega))
      have z0 : w2.cell? ⟨w.heap.size, 0, none⟩ = some (.int .i64 0) := by rw [hc2 _ _ (by simp; omega)]; simp [go_sem, hc1, hl1]
      have z1 : w2.cell? ⟨w.heap.size, 1, none⟩ = some (.int .i64 0) := by rw [hc2 _ _ (by simp; omega)]; simp [go_sem, hc1, hl1]
      go_wp2_with fail
      exact bodyPost_ret (v := .tuple #[.agg #[.int .i64 X, .int .i64 Y], .int .i64 0]) (by simp [results, Tryz.results127, go_sem, pair_set z0 z1]) rfl ⟨rfl, (hB.setCell (p := ⟨w.heap.size, 0, none⟩) (Nat.le_refl _) _).setCell (p := ⟨w.heap.size, 1, none⟩) (Nat.le_refl _) _⟩
  · have hm := fun w => l02Make_any num den w (by omega) (by omega) (by omega) (by omega)
    have hgg : Int.gcd num den = Int.gcd num den := by simp
    have hX : num.tdiv (Int.gcd num den:Int) = (num).tdiv (Int.gcd num den : Int) := by first | rfl | rw [Int.tdiv_neg, Int.neg_tdiv]
    have hY : den.tdiv (Int.gcd num den:Int) = (den).tdiv (Int.gcd num den : Int) := by first | rfl | rw [Int.tdiv_neg, Int.neg_tdiv]
    rw [plR_eq (hG.trans (if_neg (by omega))), hX, hY]
    rw [hgg] at hm
    obtain ⟨X, hXX⟩ : ∃ X, X = (num).tdiv (Int.gcd num den : Int) := ⟨_, rfl⟩
    obtain ⟨Y, hYY⟩ : ∃ Y, Y = (den).tdiv (Int.gcd num den : Int) := ⟨_, rfl⟩
    rw [← hXX, ← hYY]
    simp only [← hXX, ← hYY] at hm
    have Hm := Lib.hid hm
    clear hG hX hY hXX hYY hgg hm
    cases hv : vfB X Y
    · simp only [Bool.false_eq_true, if_false]
      go_enter Tryz.func127, Tryz.ntmps127
      go_wp2_with fail
      refine (Hm.out _).mono ?_
      rintro e w1 ⟨rfl, hb1⟩
      obtain ⟨hc1, hf1, hs1⟩ := keepc hb1
      have hl1 : w.heap.size < w1.heap.size := by simp at hs1; omega
      have hB1 : Below w.heap.size w w1 := Below.trans (by go_grown) (hb1.mono (by simp))
      go_wp2_with fail
      refine (l02Ok_any _ _ _).mono ?_
      rintro e w2 ⟨rfl, hb2⟩
      obtain ⟨hc2, hf2, hs2⟩ := keepc hb2
      have hl2 : w.heap.size < w2.heap.size := by have := hb2.size; simp at this; omega
      have hl3 : w1.heap.size < w2.heap.size := by have := hb2.size; simp at this; omega
      have hB : Below w.heap.size w w2 := (hB1.alloc (by omega) _).trans (hb2.mono (by simp; omega))
      have z0 : w2.cell? ⟨w.heap.size, 0, none⟩ = some (.int .i64 0) := by rw [hc2 _ _ (by simp; omega)]; simp [go_sem, hc1, hl1]
      have z1 : w2.cell? ⟨w.heap.size, 1, none⟩ = some (.int .i64 0) := by rw [hc2 _ _ (by simp; omega)]; simp [go_sem, hc1, hl1]
      go_wp2_with fail
      exact bodyPost_ret (v := .tuple #[.agg #[.int .i64 0, .int .i64 0], .int .i64 5]) (by simp [results, Tryz.results127, go_sem, pair_set z0 z1]) rfl ⟨rfl, (hB.setCell (p := ⟨w.heap.size, 0, none⟩) (Nat.le_refl _) _).setCell (p := ⟨w.heap.size, 1, none⟩) (Nat.le_refl _) _⟩
    · simp only [if_true]
      go_enter Tryz.func127, Tryz.ntmps127
      go_wp2_with fail
      refine (Hm.out _).mono ?_
      rintro e w1 ⟨rfl, hb1⟩
      obtain ⟨hc1, hf1, hs1⟩ := keepc hb1
      have hl1 : w.heap.size < w1.heap.size := by simp at hs1; omega
      have hB1 : Below w.heap.size w w1 := Below.trans (by go_grown) (hb1.mono (by simp))
      go_wp2_with fail
      refine (l02Ok_any _ _ _).mono ?_
      rintro e w2 ⟨rfl, hb2⟩
      obtain ⟨hc2, hf2, hs2⟩ := keepc hb2
      have hl2 : w.heap.size < w2.heap.size := by have := hb2.size; simp at this; omega
      have hl3 : w1.heap.size < w2.heap.size := by have := hb2.size; simp at this; omega
      have hB : Below w.heap.size w w2 := (hB1.alloc (by omega) _).trans (hb2.mono (by simp; omega))
      have z0 : w2.cell? ⟨w.heap.size, 0, none⟩ = some (.int .i64 0) := by rw [hc2 _ _ (by simp; omega)]; simp [go_sem, hc1, hl1]
      have z1 : w2.cell? ⟨w.heap.size, 1, none⟩ = some (.int .i64 0) := by rw [hc2 _ _ (by simp; omega)]; simp [go_sem, hc1, hl1]
      go_wp2_with fail
      exact bodyPost_ret (v := .tuple #[.agg #[.int .i64 X, .int .i64 Y], .int .i64 0]) (by simp [results, Tryz.results127, go_sem, pair_set z0 z1]) rfl ⟨rfl, (hB.setCell (p := ⟨w.heap.size, 0, none⟩) (Nat.le_refl _) _).setCell (p := ⟨w.heap.size, 1, none⟩) (Nat.le_refl _) _⟩

/-- What an operation on two fractions hands back: the plain fraction of num / den, or a code. -/
def opR (p q r s num den : Int) : Int × Int × Int := if vfB p q = true ∧ vfB r s = true then plR num den else (0, 0, 1)
theorem opR_t {p q r s num den : Int} (h1 : vfB p q = true) (h2 : vfB r s = true) : opR p q r s num den = plR num den := if_pos ⟨h1, h2⟩
theorem opR_a {p q r s num den : Int} (h1 : vfB p q = false) : opR p q r s num den = (0, 0, 1) := if_neg (fun h => by rw [h1] at h; cases h.1)
theorem opR_b {p q r s num den : Int} (h2 : vfB r s = false) : opR p q r s num den = (0, 0, 1) := if_neg (fun h => by rw [h2] at h; cases h.2)

end Go.Proofs.YtlpglibnjmjjkaaGreatDoor
namespace Go.Proofs.YtlpglibnjmjjkaaGreatDoor
open Go.RowKit
set_option linter.unusedVariables false
attribute [local go_sem ↓] Go.wp_at_zero Go.wp_at_succ

end Go.Proofs.YtlpglibnjmjjkaaGreatDoor
namespace Go.Proofs.YtlpglibnjmjjkaaGreatDoor
open Go.RowKit
set_option linter.unusedVariables false
attribute [local go_sem ↓] Go.wp_at_zero Go.wp_at_succ

/-- The convergents behind a state. -/
def cvgO : List Int → Int → Int → Int → Int → Option (List (Int × Int))
  | [], _, _, _, _ => some []
  | t :: r, p, q, p0, q0 => if vfB (t * p + p0) (t * q + q0) = true then (cvgO r (t * p + p0) (t * q + q0) p q).map ((t * p + p0, t * q + q0) :: ·) else none
def cvgL (zs : List Int) : List (Int × Int) := (cvgO zs 1 0 0 1).getD []
def cvgB (zs : List Int) : Bool := (cvgO zs 1 0 0 1).isSome
theorem cvgO_len : ∀ (zs : List Int) (p q p0 q0 : Int) (l : List (Int × Int)), cvgO zs p q p0 q0 = some l → l.length = zs.length ∧ ∀ z ∈ l, vfB z.1 z.2 = true
  | [], _, _, _, _, l, h => by simp [cvgO] at h; subst h; simp
  | t :: r, p, q, p0, q0, l, h => by
    rw [cvgO] at h
    split at h
    · rename_i hv
      cases hc : cvgO r (t * p + p0) (t * q + q0) p q with
      | none => rw [hc] at h; cases h
      | some m =>
        rw [hc] at h
        injection h with h
        subst h
        obtain ⟨h1, h2⟩ := cvgO_len r _ _ _ _ m hc
        refine ⟨by simp [h1], fun z hz => ?_⟩
        rw [List.mem_cons] at hz
        rcases hz with rfl | hz
        · exact hv
        · exact h2 z hz
    · cases h
theorem cvgL_rng (zs : List Int) : ∀ z ∈ cvgL zs, Rng z.1 ∧ Rng z.2 := by
  intro z hz
  unfold cvgL at hz
  cases hc : cvgO zs 1 0 0 1 with
  | none => rw [hc] at hz; cases hz
  | some l =>
    rw [hc] at hz
    have := vfB_iff.1 ((cvgO_len zs _ _ _ _ l hc).2 z hz)
    unfold Rng; omega
theorem cvgL_len (zs : List Int) : (cvgL zs).length ≤ zs.length := by
  unfold cvgL
  cases hc : cvgO zs 1 0 0 1 with
  | none => exact Nat.zero_le _
  | some l => exact Nat.le_of_eq (cvgO_len zs _ _ _ _ l hc).1
theorem cvg_none {zs : List Int} (h : cvgO zs 1 0 0 1 = none) : cvgL zs = [] ∧ cvgB zs = false := by unfold cvgL cvgB; rw [h]; exact ⟨rfl, rfl⟩
theorem cvg_some {zs : List Int} {l : List (Int × Int)} (h : cvgO zs 1 0 0 1 = some l) : cvgL zs = l ∧ cvgB zs = true := by unfold cvgL cvgB; rw [h]; exact ⟨rfl, rfl⟩
/-- So many of the convergents have been found. -/
def CvgAt (zs : List Int) (k : Nat) (p q p0 q0 : Int) (fs : List (Int × Int)) : Prop := cvgO zs 1 0 0 1 = (cvgO (zs.drop k) p q p0 q0).map (fs ++ ·)
theorem CvgAt.start (zs : List Int) : CvgAt zs 0 1 0 0 1 [] := by unfold CvgAt; simp
theorem drop_at {zs : List Int} {k : Nat} {z : Int} (h : zs[k]? = some z) : zs.drop k = z :: zs.drop (k + 1) := by
  have hk : k < zs.length := by
    rcases Nat.lt_or_ge k zs.length with h' | h'
    · exact h'
    · rw [List.getElem?_eq_none h'] at h; cases h
  rw [List.drop_eq_getElem_cons hk]
  rw [List.getElem?_eq_getElem hk] at h
  injection h with h
  rw [h]
theorem CvgAt.step {zs : List Int} {k : Nat} {p q p0 q0 z : Int} {fs : List (Int × Int)} (h : CvgAt zs k p q p0 q0 fs) (hz : zs[k]? = some z) (hv : vfB (z * p + p0) (z * q + q0) = true) :
    CvgAt zs (k + 1) (z * p + p0) (z * q + q0) p q (fs ++ [(z * p + p0, z * q + q0)]) := by
  unfold CvgAt at *
  rw [h, drop_at hz, cvgO, if_pos hv]
  cases cvgO (zs.drop (k + 1)) (z * p + p0) (z * q + q0) p q <;> simp
theorem CvgAt.stop {zs : List Int} {k : Nat} {p q p0 q0 z : Int} {fs : List (Int × Int)} (h : CvgAt zs k p q p0 q0 fs) (hz : zs[k]? = some z) (hv : vfB (z * p + p0) (z * q + q0) = false) : cvgO zs 1 0 0 1 = none := by
  unfold CvgAt at h
  rw [h, drop_at hz, cvgO, if_neg (by simp [hv])]; rfl
theorem CvgAt.done {zs : List Int} {k : Nat} {p q p0 q0 : Int} {fs : List (Int × Int)} (h : CvgAt zs k p q p0 q0 fs) (hk : zs.length ≤ k) : cvgO zs 1 0 0 1 = some fs := by
  unfold CvgAt at h
  rw [h, List.drop_of_length_le hk]; simp [cvgO]
theorem mul_bd2 {x y : Int} (h1 : -2000000000 ≤ x) (h2 : x ≤ 2000000000) (h3 : -1000000000 ≤ y) (h4 : y ≤ 1000000000) : -2000000000000000000 ≤ x * y ∧ x * y ≤ 2000000000000000000 := by
  have h : (x * y).natAbs ≤ 2000000000 * 1000000000 := by rw [Int.natAbs_mul]; exact Nat.mul_le_mul (by omega) (by omega)
  omega

set_option maxRecDepth 100000 in
set_option maxHeartbeats 1600000 in
theorem convergents_any (A : Option Addr) (n cap : Nat) (zs : List Int) (w : World) (h : IRow w A n zs) (hn : n ≤ 1048576) (hzb : ∀ z ∈ zs, -2000000000 ≤ z ∧ z ≤ 2000000000) :
    Calls Tryz.prog 46 #[.slice A n cap] w fun e w' => ResFb w.heap.size (cvgL zs) (cvgB zs) e w' ∧ Below w.heap.size w w' := by
  obtain ⟨i0, hi, hz0, hz1, hz2⟩ := info_parts infoF
  have HL := Lib.hid h.len
  have HZ := Lib.hid hzb
  have hw := Lib.hid h; clear h hzb
  go_enter Tryz.func46, Tryz.ntmps46
  go_wp2_with (at_make; refine wpList_make_own _ rfl _ _ 35 rfl w.heap.size 25 i0 (.agg #[.int .i64 0, .int .i64 0]) 2 Tryz.underlying35 hi hz0 hz1 .i64 .i64 _ n rfl rfl rfl (by rw [hz2]; omega) (by unfold maxLen; omega) (Nat.le_refl _) ?_; intro w0 hown0 hgrow0)
  have HO := Lib.hid hown0
  have hB0 : Below w.heap.size w w0 := (Below.refl _ _).grown hgrow0 (Nat.le_refl _) (fun k hk => by cases hk)
  clear hown0 hgrow0
  go_loopw [4, 5, 6, 7, 8, 17] (fun o a b c d i wr => ∃ (k : Nat) (p q p0 q0 : Int) (B : Option Addr) (cc : Nat) (fs : List (Int × Int)), k ≤ n ∧ i = .int .i64 k ∧ a = .int .i64 p ∧ b = .int .i64 q ∧ c = .int .i64 p0 ∧ d = .int .i64 q0 ∧ o = .slice B k cc ∧
    -1000000000 ≤ p ∧ p ≤ 1000000000 ∧ -1000000000 ≤ q ∧ q ≤ 1000000000 ∧ -1000000000 ≤ p0 ∧ p0 ≤ 1000000000 ∧ -1000000000 ≤ q0 ∧ q0 ≤ 1000000000 ∧
    wr.ownsRow w.heap.size 25 2 (.slice B k cc) k (prs fs) ∧ Hid (CvgAt zs k p q p0 q0 fs) ∧ Below w.heap.size w wr) (fun _ _ _ _ _ i _ => n - (intOf i).toNat)
  case atStart => exact ⟨0, 1, 0, 0, 1, _, _, [], Nat.zero_le _, rfl, rfl, rfl, rfl, rfl, rfl, by omega, by omega, by omega, by omega, by omega, by omega, by omega, by omega, HO.out, CvgAt.start zs, hB0⟩
  case round =>
    obtain ⟨k, p, q, p0, q0, B, cc, fs, hk, rfl, rfl, rfl, rfl, rfl, rfl, p1, p2, q1, q2, p3, p4, q3, q4, hown, HC, hB⟩ := hrel
    clear HO hB0
    have HO := Lib.hid hown
    have HF := Lib.hid hown.lt
    have hbase : w.heap.size ≤ wr.heap.size := hB.size
    clear hown
    by_cases hlt : k < n
    · obtain ⟨ad, z, rfl, hz, z1, z2, hc⟩ := (hw.out.below hB).at_ hlt
      obtain ⟨y1, y2⟩ := HZ.out z (List.mem_of_getElem? hz)
      obtain ⟨m1, m2⟩ := mul_bd2 y1 y2 p1 p2
      obtain ⟨m3, m4⟩ := mul_bd2 y1 y2 q1 q2
      have HZ1 := Lib.hid hz
      clear hz
      cases hv : vfB (z * p + p0) (z * q + q0)
      · go_wp2_with fail
        refine (validFraction_any (z * p + p0) (z * q + q0) _).mono ?_
        rintro e wv ⟨rfl, hbv⟩
        obtain ⟨hcv, hfv, hsv⟩ := keepc hbv
        have hb2 : Below w.heap.size w wv := (hB.alloc hbase _).trans (hbv.mono (by simp; omega))
        go_wp2_with fail
        go_ret2
        obtain ⟨e1, e2⟩ := cvg_none (HC.out.stop HZ1.out hv)
        rw [e1, e2]
        exact ⟨⟨none, 0, rfl, World.ownsRow_nil ..⟩, hb2⟩
      · have hvv := vfB_iff.1 hv
        obtain ⟨v1, v2, v3, v4, _⟩ := hvv
        have v1' : -1000000000 ≤ z * q + q0 := by omega
        go_wp2_with fail
        refine (validFraction_any (z * p + p0) (z * q + q0) _).mono ?_
        rintro e wv ⟨rfl, hbv⟩
        obtain ⟨hcv, hfv, hsv⟩ := keepc hbv
        have hb2 : Below w.heap.size w wv := (hB.alloc hbase _).trans (hbv.mono (by simp; omega))
        have hlv : wr.heap.size < wv.heap.size := by simp at hsv; omega
        have HO2 := Lib.hid (own_below (HO.out.alloc _) hbv)
        have hbase2 : w.heap.size ≤ wv.heap.size := hb2.size
        clear hbv HO
        go_wp2_with (first | (at_builtin; refine wpList_append_lies _ rfl (.tmp 39) (.tmp 41) 35 rfl w.heap.size 25 i0 (.agg #[.int .i64 0, .int .i64 0]) 2 16 Tryz.underlying35 hi hz0 hz1 hz2 rfl (by decide) _ k (prs fs) (by rfl) (HO2.out.alloc _) ⟨wv.heap.size, 0, none⟩ 1 1 [.int .i64 (z * p + p0), .int .i64 (z * q + q0)] (by rfl) rfl ?cells (by simp [Value.oneCell']) (by decide) (by show k + 1 ≤ 9223372036854775807; omega) (by omega) (by simp; omega) (wv.heap.size + 1) (by simp) ?_; rotate_left; intro g cap1 wn hown1 hgrow hat hlt1))
        case cells => exact fun j u hu => newcell (by simp) hu
        go_roundw
        case rel =>
          refine ⟨k + 1, z * p + p0, z * q + q0, p, q, _, _, fs ++ [(z * p + p0, z * q + q0)], by omega, by go_num, rfl, rfl, rfl, rfl, rfl, v3, v4, v1', v2, p1, p2, q1, q2, by rw [prs_append]; exact hown1, HC.out.step HZ1.out hv, (hb2.alloc hbase2 _).grown hgrow (by simp; omega) (fun k hk => (HF.out k hk).1)⟩
        case measure => simp [intOf]; omega
    · obtain rfl : n = k := by omega
      go_wp2_with fail
      go_ret2
      obtain ⟨e1, e2⟩ := cvg_some (HC.out.done (by rw [HL.out]; exact Nat.le_refl _))
      have hl := own_lenP HO.out
      rw [e1, e2]
      subst hl
      exact ⟨⟨B, cc, rfl, HO.out⟩, hB⟩

end Go.Proofs.YtlpglibnjmjjkaaGreatDoor
namespace Go.Proofs.YtlpglibnjmjjkaaGreatDoor
open Go.RowKit
set_option linter.unusedVariables false
attribute [local go_sem ↓] Go.wp_at_zero Go.wp_at_succ

theorem trm_in {zs : List Int} (h : trmB zs = true) : 1 ≤ zs.length ∧ zs.length ≤ 60 ∧ ∀ z ∈ zs, -1000000000 ≤ z ∧ z ≤ 1000000000 := by
  obtain ⟨h1, h2, h3⟩ := trmB_iff.1 h
  refine ⟨h1, h2, fun z hz => ?_⟩
  obtain ⟨k, hk⟩ := List.mem_iff_getElem?.1 hz
  have := h3 k z hk
  split at this <;> omega
theorem trm_in2 {zs : List Int} (h : trmB zs = true) : ∀ z ∈ zs, -2000000000 ≤ z ∧ z ≤ 2000000000 := fun z hz => by have := (trm_in h).2.2 z hz; omega

/-- The convergents of terms, and the code. -/
def cvfL (zs : List Int) : List (Int × Int) := if trmB zs = true then cvgL zs else []
def cvfC (zs : List Int) : Int := if trmB zs = true then (if cvgB zs = true then 0 else 5) else 1
theorem cvfL_len (zs : List Int) : (cvfL zs).length ≤ zs.length := by
  unfold cvfL
  split
  · exact cvgL_len zs
  · exact Nat.zero_le _
theorem cvfL_rng (zs : List Int) : ∀ z ∈ cvfL zs, Rng z.1 ∧ Rng z.2 := by
  unfold cvfL
  split
  · exact cvgL_rng zs
  · intro z hz; cases hz
theorem cvg_nil {zs : List Int} (h : cvgB zs = false) : cvgL zs = [] := by
  unfold cvgB at h
  unfold cvgL
  cases hc : cvgO zs 1 0 0 1 with
  | none => rfl
  | some l => rw [hc] at h; cases h
theorem cvg_full {zs : List Int} (h : cvgB zs = true) : (cvgL zs).length = zs.length := by
  unfold cvgB at h
  unfold cvgL
  cases hc : cvgO zs 1 0 0 1 with
  | none => rw [hc] at h; cases h
  | some l => exact (cvgO_len zs _ _ _ _ l hc).1

theorem implCvf_any (A : Option Addr) (n cap : Nat) (zs : List Int) (w : World) (h : IRow w A n zs) (hcap : n ≤ cap) :
    Calls Tryz.prog 11 #[.slice A n cap] w fun e w' => ResF w.heap.size (cvfL zs) (cvfC zs) e w' ∧ Below w.heap.size w w' := by
  cases ht : trmB zs
  · rw [show cvfL zs = [] from if_neg (by simp [ht]), show cvfC zs = 1 from if_neg (by simp [ht])]
    go_enter Tryz.func11, Tryz.ntmps11
    go_wp2_with fail
    refine (validTerms_any A n cap zs _ h hcap).mono ?_
    rintro e w' ⟨rfl, rfl⟩
    go_wp2_with fail
    go_ret2
    exact ⟨⟨none, 0, rfl, World.ownsRow_nil ..⟩, Below.refl _ _⟩
  · obtain ⟨t1, t2, t3⟩ := trm_in ht
    have hn : n ≤ 60 := by rw [← h.len]; exact t2
    rw [show cvfL zs = cvgL zs from if_pos ht, show cvfC zs = if cvgB zs = true then 0 else 5 from if_pos ht]
    have HC := Lib.hid (convergents_any A n cap zs w h (by omega) (trm_in2 ht))
    clear t1 t2 t3
    cases hb : cvgB zs
    · rw [cvg_nil hb] at *
      go_enter Tryz.func11, Tryz.ntmps11
      go_wp2_with fail
      refine (validTerms_any A n cap zs _ h hcap).mono ?_
      rintro e w' ⟨rfl, rfl⟩
      go_wp2_with fail
      refine HC.out.mono ?_
      rintro e w1 ⟨⟨B, c, rfl, ho⟩, hb1⟩
      clear ho
      go_wp2_with fail
      go_ret2
      exact ⟨⟨none, 0, rfl, World.ownsRow_nil ..⟩, hb1⟩
    · go_enter Tryz.func11, Tryz.ntmps11
      go_wp2_with fail
      refine (validTerms_any A n cap zs _ h hcap).mono ?_
      rintro e w' ⟨rfl, rfl⟩
      go_wp2_with fail
      refine HC.out.mono ?_
      rintro e w1 ⟨⟨B, c, rfl, ho⟩, hb1⟩
      have HO := Lib.hid ho
      clear ho
      go_wp2_with fail
      go_ret2
      exact ⟨⟨B, c, rfl, HO.out⟩, hb1⟩
end Go.Proofs.YtlpglibnjmjjkaaGreatDoor
namespace Go.Proofs.YtlpglibnjmjjkaaGreatDoor
open Go.RowKit
set_option linter.unusedVariables false
set_option linter.unusedSimpArgs false
attribute [local go_sem ↓] Go.wp_at_zero Go.wp_at_succ

theorem own_cellP {w : World} {base e n c g : Nat} {zs : List (Int × Int)} {k : Nat} {z : Int × Int} (h : w.ownsRow base e 2 (.slice (some ⟨g, 0, none⟩) n c) n (prs zs)) (hz : zs[k]? = some z) :
    w.cell? ⟨g, k * 2, none⟩ = some (.int .i64 z.1) ∧ w.cell? ⟨g, k * 2 + 1, none⟩ = some (.int .i64 z.2) := by
  have hl := own_lenP h
  have hk : k < n := by
    rcases Nat.lt_or_ge k zs.length with h' | h'
    · omega
    · rw [List.getElem?_eq_none h'] at hz; cases hz
  rw [h.cellAt (k * 2) (by omega), h.cellAt (k * 2 + 1) (by omega)]
  exact ⟨prs_get1 zs k z hz, prs_get2 zs k z hz⟩
/-- The last one. -/
def lastP (l : List (Int × Int)) : Int × Int := l.getD (l.length - 1) (0, 0)
theorem lastP_at {l : List (Int × Int)} {n : Nat} (hl : l.length = n) (hn : 1 ≤ n) : l[n - 1]? = some (lastP l) := by
  unfold lastP
  rw [hl, List.getD_eq_getElem?_getD, List.getElem?_eq_getElem (by omega)]; rfl

/-- The value of terms, and a code. -/
def valT (zs : List Int) : Int × Int × Int := if trmB zs = true then (if cvgB zs = true then ((lastP (cvgL zs)).1, (lastP (cvgL zs)).2, 0) else (0, 0, 5)) else (0, 0, 1)

set_option maxHeartbeats 800000 in
theorem implVal_any (A : Option Addr) (n cap : Nat) (zs : List Int) (w : World) (h : IRow w A n zs) (hcap : n ≤ cap) :
    Calls Tryz.prog 9 #[.slice A n cap] w fun e w' => e = .returned (.tuple #[.agg #[.int .i64 (valT zs).1, .int .i64 (valT zs).2.1], .int .i64 (valT zs).2.2]) ∧ Below w.heap.size w w' := by
  have HC := Lib.hid (implCvf_any A n cap zs _ (h.alloc (.cells #[.int .i64 0, .int .i64 0] 25)) hcap)
  by_cases ht : trmB zs = true ∧ cvgB zs = true
  · obtain ⟨h1, h2⟩ := ht
    rw [show valT zs = ((lastP (cvgL zs)).1, (lastP (cvgL zs)).2, 0) from by unfold valT; rw [if_pos h1, if_pos h2]]
    have hl : (cvgL zs).length = n := (cvg_full h2).trans h.len
    have hn1 : 1 ≤ n := by have := (trm_in h1).1; rw [h.len] at this; exact this
    have hz := lastP_at hl hn1
    rw [show cvfL zs = cvgL zs from if_pos h1, show cvfC zs = 0 from by unfold cvfC; rw [if_pos h1, if_pos h2]] at HC
    unfold ResF at HC
    rw [hl] at HC
    generalize cvgL zs = fs at *
    have hbd := h.bd
    generalize lastP fs = X at *
    obtain ⟨x, y⟩ := X
    have HZ := Lib.hid hz
    clear hl hz h1 h2 h
    go_enter Tryz.func9, Tryz.ntmps9
    go_wp2_with fail
    refine HC.out.mono ?_
    rintro e w1 ⟨⟨B, c, rfl, ho⟩, hb1⟩
    obtain ⟨g, rfl, hg1, hg2⟩ := own_some ho (by omega)
    obtain ⟨k0, k1⟩ := own_cellP ho HZ.out
    simp only at k0 k1
    obtain ⟨hc1, hf1, hs1⟩ := keepc hb1
    have hB1 : Below w.heap.size w w1 := Below.trans (by go_grown) (hb1.mono (by simp))
    have hl1 : w.heap.size < w1.heap.size := by simp at hs1; omega
    have z0 : w1.cell? ⟨w.heap.size, 0, none⟩ = some (.int .i64 0) := by rw [hc1 _ _ (by simp)]; simp [go_sem]
    have z1 : w1.cell? ⟨w.heap.size, 1, none⟩ = some (.int .i64 0) := by rw [hc1 _ _ (by simp)]; simp [go_sem]
    clear ho hb1 HC
    go_wp2_with fail
    exact bodyPost_ret (v := .tuple #[.agg #[.int .i64 x, .int .i64 y], .int .i64 0]) (by simp [results, Tryz.results9, go_sem, pair_set z0 z1]) rfl ⟨rfl, (hB1.setCell (p := ⟨w.heap.size, 0, none⟩) (Nat.le_refl _) _).setCell (p := ⟨w.heap.size, 1, none⟩) (Nat.le_refl _) _⟩
  · have hv : valT zs = (0, 0, cvfC zs) ∧ cvfC zs ≠ 0 := by
      unfold valT cvfC
      by_cases h1 : trmB zs = true
      · have h2 : ¬ cvgB zs = true := fun h2 => ht ⟨h1, h2⟩
        rw [if_pos h1, if_neg h2, if_pos h1, if_neg h2]; simp
      · rw [if_neg h1, if_neg h1]; simp
    obtain ⟨hv, hk⟩ := hv
    rw [hv]
    have hne : (cvfC zs != 0) = true := by rw [bne_iff_ne]; exact hk
    generalize cvfC zs = k at *
    unfold ResF at HC
    generalize cvfL zs = fs at *
    clear hv hk ht
    go_enter Tryz.func9, Tryz.ntmps9
    go_wp2_with fail
    refine HC.out.mono ?_
    rintro e w1 ⟨⟨B, c, rfl, ho⟩, hb1⟩
    obtain ⟨hc1, hf1, hs1⟩ := keepc hb1
    have hB1 : Below w.heap.size w w1 := Below.trans (by go_grown) (hb1.mono (by simp))
    have hl1 : w.heap.size < w1.heap.size := by simp at hs1; omega
    have z0 : w1.cell? ⟨w.heap.size, 0, none⟩ = some (.int .i64 0) := by rw [hc1 _ _ (by simp)]; simp [go_sem]
    have z1 : w1.cell? ⟨w.heap.size, 1, none⟩ = some (.int .i64 0) := by rw [hc1 _ _ (by simp)]; simp [go_sem]
    clear ho hb1 HC
    go_wp2_with fail
    exact bodyPost_ret (v := .tuple #[.agg #[.int .i64 0, .int .i64 0], .int .i64 k]) (by simp [results, Tryz.results9, go_sem, pair_set z0 z1]) rfl ⟨rfl, (hB1.setCell (p := ⟨w.heap.size, 0, none⟩) (Nat.le_refl _) _).setCell (p := ⟨w.heap.size, 1, none⟩) (Nat.le_refl _) _⟩
end Go.Proofs.YtlpglibnjmjjkaaGreatDoor
