/-
  Contracts of the functions on fractions: absolute values, greatest common divisors, valid fractions, and the laws' copies of fractions.
  The walks of the laws FnExactValidFraction and FnExactAreNeighbours: each returns true.
  Contracts of the arithmetic of fractions: lowest terms, comparison, sum, difference, product, quotient, mediant, floor, in the program and in the reference.
  Contracts of the exported functions on fractions, and the walks of their laws.
  Contracts of the tests of lists of terms with signs; the walk of the law FnExactValidSigned.
  The short terms of a fraction: contracts of the program's and of the reference's functions; the walk of the law FnExactExpandFraction.
  Conditions: those of the law's own text, and that the package-level variables hold what the program's text lays in them.
-/
import Derived.Test.YtlpglibnjmjjkaaGreatDoorProg
import Derived.Test.YtlpglibnjmjjkaaGreatDoorS01
import Derived.Handy
import Derived.BigQuiet
import Derived.Deep.QuietTactic
import Derived.Deep.RegionHeld3
import Derived.Deep.DrawnRows
import Derived.RegionTactic
import Derived.BigRegion
import Derived.Deep.DeepCutAuto
import Derived.Deep.AppendLies
namespace Go.Proofs.YtlpglibnjmjjkaaGreatDoor
open Go.RowKit
set_option linter.unusedVariables false

theorem abs_any (n : Int) (w : World) (h1 : -9223372036854775807 ≤ n) (h2 : n ≤ 9223372036854775807) : Calls Tryz.prog 61 #[.int .i64 n] w fun e w' => e = .returned (.int .i64 (n.natAbs : Int)) ∧ w = w' := by
  by_cases h : n < 0
  · rw [show (n.natAbs : Int) = -n from by omega]
    go_enter Tryz.func61, Tryz.ntmps61
    go_wp2
    go_ret
    exact ⟨rfl, rfl⟩
  · rw [show (n.natAbs : Int) = n from by omega]
    go_enter Tryz.func61, Tryz.ntmps61
    go_wp2
    go_ret
    exact ⟨rfl, rfl⟩
theorem l02Size_any (n : Int) (w : World) (h1 : -9223372036854775807 ≤ n) (h2 : n ≤ 9223372036854775807) : Calls Tryz.prog 55 #[.int .i64 n] w fun e w' => e = .returned (.int .i64 (n.natAbs : Int)) ∧ w = w' := by
  by_cases h : n < 0
  · rw [show (n.natAbs : Int) = -n from by omega]
    go_enter Tryz.func55, Tryz.ntmps55
    go_wp2
    go_ret
    exact ⟨rfl, rfl⟩
  · rw [show (n.natAbs : Int) = n from by omega]
    go_enter Tryz.func55, Tryz.ntmps55
    go_wp2
    go_ret
    exact ⟨rfl, rfl⟩

theorem l02Gcd_any (a b : Nat) (w : World) (h1 : (a : Int) ≤ 9223372036854775807) (h2 : (b : Int) ≤ 9223372036854775807) : Calls Tryz.prog 114 #[.int .i64 a, .int .i64 b] w fun e w' => e = .returned (.int .i64 (Nat.gcd a b : Nat)) ∧ w = w' := by
  go_enter Tryz.func114, Tryz.ntmps114
  go_wp2
  go_loop [0, 1] (fun u v => ∃ x y : Nat, u = .int .i64 x ∧ v = .int .i64 y ∧ (x : Int) ≤ 9223372036854775807 ∧ (y : Int) ≤ 9223372036854775807 ∧ Nat.gcd x y = Nat.gcd a b) (fun _ v => (intOf v).toNat)
  case atStart => exact ⟨a, b, rfl, rfl, h1, h2, rfl⟩
  case round =>
    obtain ⟨x, y, rfl, rfl, hx, hy, hg⟩ := hrel
    have HG := Lib.hid hg; clear hg
    by_cases hz : y = 0
    · have hx' : x = Nat.gcd a b := by have := HG.out; simpa [hz] using this
      have hy0 : (y : Int) ≤ 0 := by omega
      have HX := Lib.hid hx'; clear hx' hz
      go_wp2
      go_ret
      exact ⟨ret_int (by rw [HX.out]), rfl⟩
    · have hpos : 1 ≤ (y : Int) := by omega
      have hb : ((y : Int) != 0) = true := by rw [bne_iff_ne]; omega
      have hm0 : 0 ≤ (x : Int) % (y : Int) := by omega
      have hm : (x : Int) % (y : Int) < y := Int.emod_lt_of_pos _ (by omega)
      go_wp2
      go_round
      case rel => exact ⟨y, x % y, rfl, by go_num, hy, by omega, by rw [← HG.out, Nat.gcd_comm y (x % y), ← Nat.gcd_rec, Nat.gcd_comm]⟩
      case measure => simp [intOf]; omega

theorem gcd_any (a b : Int) (w : World) (h1 : -9223372036854775807 ≤ a) (h2 : a ≤ 9223372036854775807) (h3 : -9223372036854775807 ≤ b) (h4 : b ≤ 9223372036854775807) :
    Calls Tryz.prog 84 #[.int .i64 a, .int .i64 b] w fun e w' => e = .returned (.int .i64 (Int.gcd a b : Nat)) ∧ ∃ m, w' = w.drewN m := by
  go_enter Tryz.func84, Tryz.ntmps84
  go_wp2_with (first | (go_at_call 61; refine (abs_any _ _ (by assumption) (by assumption)).mono ?_; rintro e w1 ⟨rfl, rfl⟩))
  go_loopw [0, 1] (fun u v wr => ∃ x y : Nat, u = .int .i64 x ∧ v = .int .i64 y ∧ (x : Int) ≤ 9223372036854775807 ∧ (y : Int) ≤ 9223372036854775807 ∧ Nat.gcd x y = Int.gcd a b ∧ ∃ m, wr = w.drewN m) (fun _ v _ => (intOf v).toNat)
  case atStart => exact ⟨a.natAbs, b.natAbs, rfl, rfl, by omega, by omega, rfl, 0, rfl⟩
  case round =>
    obtain ⟨x, y, rfl, rfl, hx, hy, hg, md, rfl⟩ := hrel
    have HG := Lib.hid hg; clear hg
    by_cases hz : y = 0
    · have hx' : x = Int.gcd a b := by have := HG.out; simpa [hz] using this
      have hy0 : (y : Int) ≤ 0 := by omega
      have HX := Lib.hid hx'; clear hx' hz
      go_wp2
      go_ret
      exact ⟨ret_int (by rw [HX.out]), md, rfl⟩
    · have hpos : 1 ≤ (y : Int) := by omega
      have hb : ((y : Int) != 0) = true := by rw [bne_iff_ne]; omega
      have hm0 : 0 ≤ (x : Int) % (y : Int) := by omega
      have hm : (x : Int) % (y : Int) < y := Int.emod_lt_of_pos _ (by omega)
      go_wp2
      go_quiet (fail)
      go_wp2
      go_roundw
      case rel => exact ⟨y, x % y, rfl, by go_num, hy, by omega, by rw [← HG.out, Nat.gcd_comm y (x % y), ← Nat.gcd_rec, Nat.gcd_comm], _, World.drewN_drewN _ _ _⟩
      case measure => simp [intOf]; omega

/-- A fraction is plain. -/
def vfB (p q : Int) : Bool := decide (1 ≤ q ∧ q ≤ 1000000000 ∧ -1000000000 ≤ p ∧ p ≤ 1000000000 ∧ Int.gcd p q = 1)
theorem vfB_t {p q : Int} (h1 : 1 ≤ q) (h2 : q ≤ 1000000000) (h3 : -1000000000 ≤ p) (h4 : p ≤ 1000000000) (h5 : Int.gcd p q = 1) : vfB p q = true := decide_eq_true ⟨h1, h2, h3, h4, h5⟩
theorem vfB_f {p q : Int} (h : ¬ (1 ≤ q ∧ q ≤ 1000000000 ∧ -1000000000 ≤ p ∧ p ≤ 1000000000 ∧ Int.gcd p q = 1)) : vfB p q = false := decide_eq_false h
theorem vfB_iff {p q : Int} : vfB p q = true ↔ 1 ≤ q ∧ q ≤ 1000000000 ∧ -1000000000 ≤ p ∧ p ≤ 1000000000 ∧ Int.gcd p q = 1 := by unfold vfB; exact decide_eq_true_iff

theorem validFraction_any (p q : Int) (w : World) : Calls Tryz.prog 41 #[.agg #[.int .i64 p, .int .i64 q]] w fun e w' => e = .returned (.bool (vfB p q)) ∧ Below w.heap.size w w' := by
  by_cases h1 : 1 ≤ q ∧ q ≤ 1000000000
  · have i1 := inB_t h1.1 h1.2
    by_cases h2 : -1000000000 ≤ p ∧ p ≤ 1000000000
    · have i2 := inB_t h2.1 h2.2
      obtain ⟨h1a, h1b⟩ := h1
      obtain ⟨h2a, h2b⟩ := h2
      by_cases h3 : Int.gcd p q = 1
      · rw [vfB_t h1a h1b h2a h2b h3]
        have H3 := Lib.hid h3
        have e3 : (((Int.gcd p q : Nat) : Int) == 1) = true := by rw [h3]; rfl
        clear h3
        go_enter Tryz.func41, Tryz.ntmps41
        go_wp2_with (first | (go_at_call 78; refine (within_any _ _ _ _).mono ?_; rintro e w1 ⟨rfl, rfl⟩) | (go_at_call 84; refine (gcd_any p q _ (by omega) (by omega) (by omega) (by omega)).mono ?_; rintro e w1 ⟨rfl, m, rfl⟩))
        go_ret
        exact ⟨rfl, ((Below.refl _ _).alloc (Nat.le_refl _) _).trans (below_drewN _ _ _)⟩
      · rw [vfB_f (by omega)]
        have e3 : (((Int.gcd p q : Nat) : Int) == 1) = false := by rw [beq_eq_false_iff_ne]; omega
        clear h3
        go_enter Tryz.func41, Tryz.ntmps41
        go_wp2_with (first | (go_at_call 78; refine (within_any _ _ _ _).mono ?_; rintro e w1 ⟨rfl, rfl⟩) | (go_at_call 84; refine (gcd_any p q _ (by omega) (by omega) (by omega) (by omega)).mono ?_; rintro e w1 ⟨rfl, m, rfl⟩))
        go_ret
        exact ⟨rfl, ((Below.refl _ _).alloc (Nat.le_refl _) _).trans (below_drewN _ _ _)⟩
    · rw [vfB_f (by omega)]
      have i2 : inB p (-1000000000) 1000000000 = false := inB_f (by omega)
      clear h1 h2
      go_enter Tryz.func41, Tryz.ntmps41
      go_wp2_with (first | (go_at_call 78; refine (within_any _ _ _ _).mono ?_; rintro e w1 ⟨rfl, rfl⟩))
      go_ret
      exact ⟨rfl, (Below.refl _ _).alloc (Nat.le_refl _) _⟩
  · rw [vfB_f (by omega)]
    have i1 : inB q 1 1000000000 = false := inB_f (by omega)
    clear h1
    go_enter Tryz.func41, Tryz.ntmps41
    go_wp2_with (first | (go_at_call 78; refine (within_any _ _ _ _).mono ?_; rintro e w1 ⟨rfl, rfl⟩))
    go_ret
    exact ⟨rfl, (Below.refl _ _).alloc (Nat.le_refl _) _⟩

set_option maxHeartbeats 1600000 in
theorem l02Ok_any (p q : Int) (w : World) : Calls Tryz.prog 102 #[.agg #[.int .i64 p, .int .i64 q]] w fun e w' => e = .returned (.bool (vfB p q)) ∧ Below w.heap.size w w' := by
  by_cases h2 : -1000000000 ≤ p ∧ p ≤ 1000000000
  · have i2 := inB_t h2.1 h2.2
    by_cases h1 : 1 ≤ q ∧ q ≤ 1000000000
    · have i1 := inB_t h1.1 h1.2
      obtain ⟨h1a, h1b⟩ := h1
      obtain ⟨h2a, h2b⟩ := h2
      obtain ⟨d, rfl⟩ := Int.eq_ofNat_of_zero_le (show 0 ≤ q by omega)
      have hgg : Int.gcd p d = Nat.gcd p.natAbs d := rfl
      by_cases h3 : Nat.gcd p.natAbs d = 1
      · rw [vfB_t h1a h1b h2a h2b (by rw [hgg, h3])]
        have e3 : (((Nat.gcd p.natAbs d : Nat) : Int) == 1) = true := by rw [h3]; rfl
        clear h3 hgg
        go_enter Tryz.func102, Tryz.ntmps102
        go_wp2
        go_quiet ((first | (go_at_call 86; exact quiet_eq (l00In_any _ _ _ _)) | (go_at_call 55; exact quiet_eq (l02Size_any _ _ (by omega) (by omega))) | (go_at_call 114; exact quiet_eq (l02Gcd_any p.natAbs d _ (by omega) (by omega)))))
        go_wp2
        go_ret
        exact ⟨rfl, ((Below.refl _ _).alloc (Nat.le_refl _) _).trans (below_drewN _ _ _)⟩
      · rw [vfB_f (by rw [hgg]; omega)]
        have e3 : (((Nat.gcd p.natAbs d : Nat) : Int) == 1) = false := by rw [beq_eq_false_iff_ne]; omega
        clear h3 hgg
        go_enter Tryz.func102, Tryz.ntmps102
        go_wp2
        go_quiet ((first | (go_at_call 86; exact quiet_eq (l00In_any _ _ _ _)) | (go_at_call 55; exact quiet_eq (l02Size_any _ _ (by omega) (by omega))) | (go_at_call 114; exact quiet_eq (l02Gcd_any p.natAbs d _ (by omega) (by omega)))))
        go_wp2
        go_ret
        exact ⟨rfl, ((Below.refl _ _).alloc (Nat.le_refl _) _).trans (below_drewN _ _ _)⟩
    · rw [vfB_f (by omega)]
      have i1 : inB q 1 1000000000 = false := inB_f (by omega)
      clear h1 h2
      go_enter Tryz.func102, Tryz.ntmps102
      go_wp2
      go_quiet ((go_at_call 86; exact quiet_eq (l00In_any _ _ _ _)))
      go_wp2
      go_ret
      exact ⟨rfl, ((Below.refl _ _).alloc (Nat.le_refl _) _).trans (below_drewN _ _ _)⟩
  · rw [vfB_f (by omega)]
    have i2 : inB p (-1000000000) 1000000000 = false := inB_f (by omega)
    clear h2
    go_enter Tryz.func102, Tryz.ntmps102
    go_wp2
    go_quiet ((go_at_call 86; exact quiet_eq (l00In_any _ _ _ _)))
    go_wp2
    go_ret
    exact ⟨rfl, ((Below.refl _ _).alloc (Nat.le_refl _) _).trans (below_drewN _ _ _)⟩

end Go.Proofs.YtlpglibnjmjjkaaGreatDoor
namespace Go.Proofs.YtlpglibnjmjjkaaGreatDoor
open Go.RowKit
set_option linter.unusedVariables false
attribute [local go_sem ↓] Go.wp_at_zero Go.wp_at_succ

/-- Two fractions are neighbours. -/
def nbB (p q r s : Int) : Bool := vfB p q && (vfB r s && decide ((p * s - r * q).natAbs = 1))
theorem nbB_a {p q r s : Int} (h : vfB p q = false) : nbB p q r s = false := by unfold nbB; rw [h]; rfl
theorem nbB_b {p q r s : Int} (h : vfB r s = false) : nbB p q r s = false := by unfold nbB; rw [h]; simp
theorem nbB_c {p q r s : Int} (h : vfB p q = true) (h' : vfB r s = true) : nbB p q r s = decide ((p * s - r * q).natAbs = 1) := by unfold nbB; rw [h, h']; simp

/-- The code of two fractions. -/
def twoC (p q r s : Int) : Int := if vfB p q = true ∧ vfB r s = true then 0 else 1
theorem l02Two_any (p q r s : Int) (w : World) : Calls Tryz.prog 54 #[.agg #[.int .i64 p, .int .i64 q], .agg #[.int .i64 r, .int .i64 s]] w fun e w' => e = .returned (.int .i64 (twoC p q r s)) ∧ Below w.heap.size w w' := by
  by_cases h1 : vfB p q = true
  · by_cases h2 : vfB r s = true
    · rw [show twoC p q r s = 0 from if_pos ⟨h1, h2⟩]
      go_enter Tryz.func54, Tryz.ntmps54
      go_wp2_with fail
      refine (l02Ok_any p q _).mono ?_
      rintro e w1 ⟨rfl, hb1⟩
      obtain ⟨hc1, hf1, hs1⟩ := keepc hb1
      have hB1 : Below w.heap.size w w1 := Below.trans (by go_grown) (hb1.mono (by first | exact Nat.le_refl _ | (simp only [World.size_alloc]; omega)))
      try simp only [World.size_alloc] at hs1
      have hl1_0 : w.heap.size < w1.heap.size := by omega
      have hl1_1 : w.heap.size + 1 < w1.heap.size := by omega
      go_wp2_with fail
      refine (l02Ok_any r s _).mono ?_
      rintro e w2 ⟨rfl, hb2⟩
      obtain ⟨hc2, hf2, hs2⟩ := keepc hb2
      have hB2 : Below w.heap.size w w2 := hB1.trans (hb2.mono (by have := hB1.size; omega))
      have hl2_0 : w.heap.size < w2.heap.size := by omega
      have hl2_1 : w.heap.size + 1 < w2.heap.size := by omega
      go_wp2_with fail
      go_ret
      exact ⟨rfl, hB2⟩
    · rw [show twoC p q r s = 1 from if_neg (fun h => h2 h.2)]
      have h2 := eq_false_of_ne_true h2
      go_enter Tryz.func54, Tryz.ntmps54
      go_wp2_with fail
      refine (l02Ok_any p q _).mono ?_
      rintro e w1 ⟨rfl, hb1⟩
      obtain ⟨hc1, hf1, hs1⟩ := keepc hb1
      have hB1 : Below w.heap.size w w1 := Below.trans (by go_grown) (hb1.mono (by first | exact Nat.le_refl _ | (simp only [World.size_alloc]; omega)))
      try simp only [World.size_alloc] at hs1
      have hl1_0 : w.heap.size < w1.heap.size := by omega
      have hl1_1 : w.heap.size + 1 < w1.heap.size := by omega
      go_wp2_with fail
      refine (l02Ok_any r s _).mono ?_
      rintro e w2 ⟨rfl, hb2⟩
      obtain ⟨hc2, hf2, hs2⟩ := keepc hb2
      have hB2 : Below w.heap.size w w2 := hB1.trans (hb2.mono (by have := hB1.size; omega))
      have hl2_0 : w.heap.size < w2.heap.size := by omega
      have hl2_1 : w.heap.size + 1 < w2.heap.size := by omega
      go_wp2_with fail
      go_ret
      exact ⟨rfl, hB2⟩
  · rw [show twoC p q r s = 1 from if_neg (fun h => h1 h.1)]
    have h1 := eq_false_of_ne_true h1
    go_enter Tryz.func54, Tryz.ntmps54
    go_wp2_with fail
    refine (l02Ok_any p q _).mono ?_
    rintro e w1 ⟨rfl, hb1⟩
    obtain ⟨hc1, hf1, hs1⟩ := keepc hb1
    have hB1 : Below w.heap.size w w1 := Below.trans (by go_grown) (hb1.mono (by first | exact Nat.le_refl _ | (simp only [World.size_alloc]; omega)))
    try simp only [World.size_alloc] at hs1
    have hl1_0 : w.heap.size < w1.heap.size := by omega
    have hl1_1 : w.heap.size + 1 < w1.heap.size := by omega
    go_wp2_with fail
    go_ret
    exact ⟨rfl, hB1⟩
theorem specAreNeighbours_any (p q r s : Int) (w : World) : Calls Tryz.prog 15 #[.agg #[.int .i64 p, .int .i64 q], .agg #[.int .i64 r, .int .i64 s]] w fun e w' => e = .returned (.bool (nbB p q r s)) ∧ Below w.heap.size w w' := by
  by_cases hh : vfB p q = true ∧ vfB r s = true
  · obtain ⟨h1, h2⟩ := hh
    rw [nbB_c h1 h2]
    obtain ⟨a1, a2, a3, a4, _⟩ := vfB_iff.1 h1
    obtain ⟨b1, b2, b3, b4, _⟩ := vfB_iff.1 h2
    obtain ⟨m1, m2⟩ := mul_bd a3 a4 (by omega) b2 (y := s)
    obtain ⟨m3, m4⟩ := mul_bd b3 b4 (by omega) a2 (y := q)
    have ht : twoC p q r s = 0 := if_pos ⟨h1, h2⟩
    by_cases h3 : (p * s - r * q).natAbs = 1
    · rw [decide_eq_true h3]
      have e3 : (((p * s - r * q).natAbs : Int) == 1) = true := by rw [h3]; rfl
      clear h3
      go_enter Tryz.func15, Tryz.ntmps15
      go_wp2_with fail
      refine (l02Two_any p q r s _).mono ?_
      rintro e w1 ⟨rfl, hb1⟩
      obtain ⟨hc1, hf1, hs1⟩ := keepc hb1
      have hB1 : Below w.heap.size w w1 := Below.trans (by go_grown) (hb1.mono (by first | exact Nat.le_refl _ | (simp only [World.size_alloc]; omega)))
      try simp only [World.size_alloc] at hs1
      have hl1_0 : w.heap.size < w1.heap.size := by omega
      have hl1_1 : w.heap.size + 1 < w1.heap.size := by omega
      go_wp2_with fail
      refine (l02Size_any _ _ (by omega) (by omega)).mono ?_
      rintro e w3 ⟨rfl, rfl⟩
      go_wp2_with fail
      go_ret
      exact ⟨rfl, hB1⟩
    · rw [decide_eq_false h3]
      have e3 : (((p * s - r * q).natAbs : Int) == 1) = false := by rw [beq_eq_false_iff_ne]; omega
      clear h3
      go_enter Tryz.func15, Tryz.ntmps15
      go_wp2_with fail
      refine (l02Two_any p q r s _).mono ?_
      rintro e w1 ⟨rfl, hb1⟩
      obtain ⟨hc1, hf1, hs1⟩ := keepc hb1
      have hB1 : Below w.heap.size w w1 := Below.trans (by go_grown) (hb1.mono (by first | exact Nat.le_refl _ | (simp only [World.size_alloc]; omega)))
      try simp only [World.size_alloc] at hs1
      have hl1_0 : w.heap.size < w1.heap.size := by omega
      have hl1_1 : w.heap.size + 1 < w1.heap.size := by omega
      go_wp2_with fail
      refine (l02Size_any _ _ (by omega) (by omega)).mono ?_
      rintro e w3 ⟨rfl, rfl⟩
      go_wp2_with fail
      go_ret
      exact ⟨rfl, hB1⟩
  · have hn : nbB p q r s = false := by
      by_cases h1 : vfB p q = true
      · exact nbB_b (eq_false_of_ne_true (fun h2 => hh ⟨h1, h2⟩))
      · exact nbB_a (eq_false_of_ne_true h1)
    rw [hn]
    have ht : twoC p q r s = 1 := if_neg hh
    clear hh hn
    go_enter Tryz.func15, Tryz.ntmps15
    go_wp2_with fail
    refine (l02Two_any p q r s _).mono ?_
    rintro e w1 ⟨rfl, hb1⟩
    obtain ⟨hc1, hf1, hs1⟩ := keepc hb1
    have hB1 : Below w.heap.size w w1 := Below.trans (by go_grown) (hb1.mono (by first | exact Nat.le_refl _ | (simp only [World.size_alloc]; omega)))
    try simp only [World.size_alloc] at hs1
    have hl1_0 : w.heap.size < w1.heap.size := by omega
    have hl1_1 : w.heap.size + 1 < w1.heap.size := by omega
    go_wp2_with fail
    go_ret
    exact ⟨rfl, hB1⟩
end Go.Proofs.YtlpglibnjmjjkaaGreatDoor
namespace Go.Proofs.YtlpglibnjmjjkaaGreatDoor
open Go.RowKit
set_option linter.unusedVariables false
attribute [local go_sem ↓] Go.wp_at_zero Go.wp_at_succ

theorem tdiv_bd (a b : Int) : (a.tdiv b).natAbs ≤ a.natAbs := by rw [Int.natAbs_tdiv]; exact Nat.div_le_self _ _
theorem gcd_pos {a b : Int} (h : b < 0 ∨ 0 < b) : 1 ≤ Int.gcd a b := Int.gcd_pos_of_ne_zero_right _ (by omega)

/-- The plain fraction that is equal to num / den, and a code. -/
def plG (num den : Int) : Int := if den < 0 then -(Int.gcd num den : Int) else (Int.gcd num den : Int)
def plR (num den : Int) : Int × Int × Int :=
  if vfB (num.tdiv (plG num den)) (den.tdiv (plG num den)) = true then (num.tdiv (plG num den), den.tdiv (plG num den), 0) else (0, 0, 5)
theorem plR_t {num den : Int} (h : vfB (num.tdiv (plG num den)) (den.tdiv (plG num den)) = true) : plR num den = (num.tdiv (plG num den), den.tdiv (plG num den), 0) := if_pos h
theorem plR_f {num den : Int} (h : vfB (num.tdiv (plG num den)) (den.tdiv (plG num den)) = false) : plR num den = (0, 0, 5) := if_neg (by rw [h]; decide)

theorem plR_eq {num den d : Int} (hd : plG num den = d) : plR num den = if vfB (num.tdiv d) (den.tdiv d) = true then (num.tdiv d, den.tdiv d, 0) else (0, 0, 5) := by subst hd; rfl

set_option maxHeartbeats 1600000 in
theorem plainOf_any (num den : Int) (w : World) (h1 : -9223372036854775807 ≤ num) (h2 : num ≤ 9223372036854775807) (h3 : -9223372036854775807 ≤ den) (h4 : den ≤ 9223372036854775807) (h5 : den < 0 ∨ 0 < den) :
    Calls Tryz.prog 113 #[.int .i64 num, .int .i64 den] w fun e w' => e = .returned (.tuple #[.agg #[.int .i64 (plR num den).1, .int .i64 (plR num den).2.1], .int .i64 (plR num den).2.2]) ∧ Below w.heap.size w w' := by
  have hg := gcd_pos (a := num) h5
  have hgle : Int.gcd num den ≤ den.natAbs := Int.gcd_le_natAbs_right num (by omega)
  have hc := fun w => gcd_any num den w h1 h2 h3 h4
  obtain ⟨g, hgd⟩ : ∃ g, g = Int.gcd num den := ⟨_, rfl⟩
  have hG : plG num den = if den < 0 then -(g : Int) else (g : Int) := by unfold plG; rw [← hgd]
  rw [← hgd] at hg hgle
  simp only [← hgd] at hc
  have Hc := Lib.hid hc
  clear hgd hc
  rcases h5 with h5 | h5
  · have hX : num.tdiv (-(g:Int)) = (-(num.tdiv (g:Int))) := by first | rfl | exact Int.tdiv_neg num (g : Int)
    have hY : den.tdiv (-(g:Int)) = (-(den.tdiv (g:Int))) := by first | rfl | exact Int.tdiv_neg den (g : Int)
    rw [plR_eq (hG.trans (if_pos (by omega))), hX, hY]
    have b1 := tdiv_bd num (g : Int)
    have b2 := tdiv_bd den (g : Int)
    have b1a : -9223372036854775807 ≤ (-(num.tdiv (g:Int))) := by omega
    have b1b : (-(num.tdiv (g:Int))) ≤ 9223372036854775807 := by omega
    have b2a : -9223372036854775807 ≤ (-(den.tdiv (g:Int))) := by omega
    have b2b : (-(den.tdiv (g:Int))) ≤ 9223372036854775807 := by omega
    have hd0 : (-(g:Int)) < 0 ∨ 0 < (-(g:Int)) := by omega
    have hg1 : 1 ≤ (g : Int) := by omega
    have hg2 : (g : Int) ≤ 9223372036854775807 := by omega
    clear b1 b2 hG hg hgle hX hY
    cases hv : vfB (-(num.tdiv (g:Int))) (-(den.tdiv (g:Int)))
    · simp only [Bool.false_eq_true, if_false]
      go_enter Tryz.func113, Tryz.ntmps113
      go_wp2_with (first | (go_at_call 84; refine (Hc.out _).mono ?_; rintro e w1 ⟨rfl, m, rfl⟩))
      go_region
      go_wp2_with fail
      refine (validFraction_any _ _ _).mono ?_
      rintro e w2 ⟨rfl, hb2⟩
      obtain ⟨hc2, hf2, hs2⟩ := keepc hb2
      have hl2 : w.heap.size + 1 < w2.heap.size := by have := hb2.size; simp at this; omega
      have hl2' : w.heap.size < w2.heap.size := by omega
      have hB : Below w.heap.size w w2 := Below.trans (((Below.trans ((Below.refl _ _).alloc (Nat.le_refl _) _) (below_drewN _ _ _)).alloc (by simp) _)) (hb2.mono (by simp; omega))
      have z0 : w2.cell? ⟨w.heap.size, 0, none⟩ = some (.int .i64 0) := by rw [hc2 _ _ (by simp; omega)]; simp [go_sem]
      have z1 : w2.cell? ⟨w.heap.size, 1, none⟩ = some (.int .i64 0) := by rw [hc2 _ _ (by simp; omega)]; simp [go_sem]
      go_wp2_with fail
      exact bodyPost_ret (v := .tuple #[.agg #[.int .i64 0, .int .i64 0], .int .i64 5]) (by simp [results, Tryz.results113, go_sem, pair_set z0 z1]) rfl ⟨rfl, (hB.setCell (p := ⟨w.heap.size, 0, none⟩) (Nat.le_refl _) _).setCell (p := ⟨w.heap.size, 1, none⟩) (Nat.le_refl _) _⟩
    · simp only [if_true]
      go_enter Tryz.func113, Tryz.ntmps113
      go_wp2_with (first | (go_at_call 84; refine (Hc.out _).mono ?_; rintro e w1 ⟨rfl, m, rfl⟩))
      go_region
      go_wp2_with fail
      refine (validFraction_any _ _ _).mono ?_
      rintro e w2 ⟨rfl, hb2⟩
      obtain ⟨hc2, hf2, hs2⟩ := keepc hb2
      have hl2 : w.heap.size + 1 < w2.heap.size := by have := hb2.size; simp at this; omega
      have hl2' : w.heap.size < w2.heap.size := by omega
      have hB : Below w.heap.size w w2 := Below.trans (((Below.trans ((Below.refl _ _).alloc (Nat.le_refl _) _) (below_drewN _ _ _)).alloc (by simp) _)) (hb2.mono (by simp; omega))
      have z0 : w2.cell? ⟨w.heap.size, 0, none⟩ = some (.int .i64 0) := by rw [hc2 _ _ (by simp; omega)]; simp [go_sem]
      have z1 : w2.cell? ⟨w.heap.size, 1, none⟩ = some (.int .i64 0) := by rw [hc2 _ _ (by simp; omega)]; simp [go_sem]
      go_wp2_with fail
      exact bodyPost_ret (v := .tuple #[.agg #[.int .i64 (-(num.tdiv (g:Int))), .int .i64 (-(den.tdiv (g:Int)))], .int .i64 0]) (by simp [results, Tryz.results113, go_sem, pair_set z0 z1]) rfl ⟨rfl, (hB.setCell (p := ⟨w.heap.size, 0, none⟩) (Nat.le_refl _) _).setCell (p := ⟨w.heap.size, 1, none⟩) (Nat.le_refl _) _⟩
  · have hX : num.tdiv (g:Int) = (num.tdiv (g:Int)) := by first | rfl | exact Int.tdiv_neg num (g : Int)
    have hY : den.tdiv (g:Int) = (den.tdiv (g:Int)) := by first | rfl | exact Int.tdiv_neg den (g : Int)
    rw [plR_eq (hG.trans (if_neg (by omega))), hX, hY]
    have b1 := tdiv_bd num (g : Int)
    have b2 := tdiv_bd den (g : Int)
    have b1a : -9223372036854775807 ≤ (num.tdiv (g:Int)) := by omega
    have b1b : (num.tdiv (g:Int)) ≤ 9223372036854775807 := by omega
    have b2a : -9223372036854775807 ≤ (den.tdiv (g:Int)) := by omega
    have b2b : (den.tdiv (g:Int)) ≤ 9223372036854775807 := by omega
    have hd0 : (g:Int) < 0 ∨ 0 < (g:Int) := by omega
    have hg1 : 1 ≤ (g : Int) := by omega
    have hg2 : (g : Int) ≤ 9223372036854775807 := by omega
    clear b1 b2 hG hg hgle hX hY
    cases hv : vfB (num.tdiv (g:Int)) (den.tdiv (g:Int))
    · simp only [Bool.false_eq_true, if_false]
      go_enter Tryz.func113, Tryz.ntmps113
      go_wp2_with (first | (go_at_call 84; refine (Hc.out _).mono ?_; rintro e w1 ⟨rfl, m, rfl⟩))
      go_region
      go_wp2_with fail
      refine (validFraction_any _ _ _).mono ?_
      rintro e w2 ⟨rfl, hb2⟩
      obtain ⟨hc2, hf2, hs2⟩ := keepc hb2
      have hl2 : w.heap.size + 1 < w2.heap.size := by have := hb2.size; simp at this; omega
      have hl2' : w.heap.size < w2.heap.size := by omega
      have hB : Below w.heap.size w w2 := Below.trans (((Below.trans ((Below.refl _ _).alloc (Nat.le_refl _) _) (below_drewN _ _ _)).alloc (by simp) _)) (hb2.mono (by simp; omega))
      have z0 : w2.cell? ⟨w.heap.size, 0, none⟩ = some (.int .i64 0) := by rw [hc2 _ _ (by simp; omega)]; simp [go_sem]
      have z1 : w2.cell? ⟨w.heap.size, 1, none⟩ = some (.int .i64 0) := by rw [hc2 _ _ (by simp; omega)]; simp [go_sem]
      go_wp2_with fail
      exact bodyPost_ret (v := .tuple #[.agg #[.int .i64 0, .int .i64 0], .int .i64 5]) (by simp [results, Tryz.results113, go_sem, pair_set z0 z1]) rfl ⟨rfl, (hB.setCell (p := ⟨w.heap.size, 0, none⟩) (Nat.le_refl _) _).setCell (p := ⟨w.heap.size, 1, none⟩) (Nat.le_refl _) _⟩
    · simp only [if_true]
      go_enter Tryz.func113, Tryz.ntmps113
      go_wp2_with (first | (go_at_call 84; refine (Hc.out _).mono ?_; rintro e w1 ⟨rfl, m, rfl⟩))
      go_region
      go_wp2_with fail
      refine (validFraction_any _ _ _).mono ?_
      rintro e w2 ⟨rfl, hb2⟩
      obtain ⟨hc2, hf2, hs2⟩ := keepc hb2
      have hl2 : w.heap.size + 1 < w2.heap.size := by have := hb2.size; simp at this; omega
      have hl2' : w.heap.size < w2.heap.size := by omega
      have hB : Below w.heap.size w w2 := Below.trans (((Below.trans ((Below.refl _ _).alloc (Nat.le_refl _) _) (below_drewN _ _ _)).alloc (by simp) _)) (hb2.mono (by simp; omega))
      have z0 : w2.cell? ⟨w.heap.size, 0, none⟩ = some (.int .i64 0) := by rw [hc2 _ _ (by simp; omega)]; simp [go_sem]
      have z1 : w2.cell? ⟨w.heap.size, 1, none⟩ = some (.int .i64 0) := by rw [hc2 _ _ (by simp; omega)]; simp [go_sem]
      go_wp2_with fail
      exact bodyPost_ret (v := .tuple #[.agg #[.int .i64 (num.tdiv (g:Int)), .int .i64 (den.tdiv (g:Int))], .int .i64 0]) (by simp [results, Tryz.results113, go_sem, pair_set z0 z1]) rfl ⟨rfl, (hB.setCell (p := ⟨w.heap.size, 0, none⟩) (Nat.le_refl _) _).setCell (p := ⟨w.heap.size, 1, none⟩) (Nat.le_refl _) _⟩

/-- -1, 0 or 1. -/
def cmpI (x y : Int) : Int := if x < y then -1 else if y < x then 1 else 0

theorem neg_quo (a b : Int) (ha : a < 0) (hb : 1 ≤ b) : a.tmod b ≤ 0 ∧ -b < a.tmod b ∧ a.tdiv b ≤ 0 := by
  have e1 : a.tmod b = -((-a) % b) := by rw [← Int.tmod_eq_emod_of_nonneg (by omega), Int.neg_tmod]; omega
  have e2 : a.tdiv b = -((-a) / b) := by rw [← Int.tdiv_eq_ediv_of_nonneg (by omega), Int.neg_tdiv]; omega
  have h1 := Int.emod_nonneg (-a) (show b ≠ 0 by omega)
  have h2 := Int.emod_lt_of_pos (-a) (show 0 < b by omega)
  have h3 : 0 ≤ (-a) / b := Int.ediv_nonneg (by omega) (by omega)
  omega
theorem floor_neg (a b : Int) (ha : a < 0) (hb : 1 ≤ b) : a / b = if a.tmod b = 0 then a.tdiv b else a.tdiv b - 1 := by
  have h1 := Int.mul_tdiv_add_tmod a b
  obtain ⟨h2, h3, _⟩ := neg_quo a b ha hb
  have e : ∀ q r : Int, b * q + r = a → 0 ≤ r → r < b → a / b = q := fun q r he h0 hb' =>
    ((Int.ediv_emod_unique (a := a) (r := r) (q := q) (b := b) (by omega)).2 ⟨by rw [Int.add_comm]; exact he, h0, hb'⟩).1
  split
  · rename_i h0
    exact e _ (a.tmod b) h1 (by omega) (by omega)
  · refine e _ (a.tmod b + b) ?_ (by omega) (by omega)
    rw [Int.mul_sub, Int.mul_one]; omega

set_option maxHeartbeats 800000 in
theorem floorDiv_any (a b : Int) (w : World) (h1 : -9223372036854775807 ≤ a) (h2 : a ≤ 9223372036854775807) (h3 : 1 ≤ b) (h4 : b ≤ 9223372036854775807) :
    Calls Tryz.prog 85 #[.int .i64 a, .int .i64 b] w fun e w' => e = .returned (.int .i64 (a / b)) ∧ w = w' := by
  by_cases ha : 0 ≤ a
  · have hda : decide (a < 0) = false := decide_eq_false (by omega)
    have hdb : decide (b < 0) = false := decide_eq_false (by omega)
    have q0 : 0 ≤ a / b := Int.ediv_nonneg ha (by omega)
    have q1 : a / b ≤ a := Int.ediv_le_self b ha
    have r0 : 0 ≤ a % b := Int.emod_nonneg a (by omega)
    have r1 : a % b < b := Int.emod_lt_of_pos a (by omega)
    by_cases hr : a % b = 0
    · have hr' : (a % b != 0) = false := by rw [hr]; rfl
      have hr2 : a % b ≤ 0 := by omega
      clear hr
      go_enter Tryz.func85, Tryz.ntmps85
      go_wp2
      go_ret
      exact ⟨rfl, rfl⟩
    · have hr' : (a % b != 0) = true := by rw [bne_iff_ne]; exact hr
      have hr2 : 1 ≤ a % b := by omega
      clear hr
      go_enter Tryz.func85, Tryz.ntmps85
      go_wp2
      go_ret
      exact ⟨rfl, rfl⟩
  · have hda : decide (a < 0) = true := decide_eq_true (by omega)
    have hdb : decide (b < 0) = false := decide_eq_false (by omega)
    have hn := floor_neg a b (by omega) h3
    have b1 := tdiv_bd a b
    have q0 : -9223372036854775807 ≤ a.tdiv b := by omega
    obtain ⟨r0, r1, q1⟩ := neg_quo a b (by omega) h3
    by_cases hr : a.tmod b = 0
    · rw [hn, if_pos hr]
      have hr' : (a.tmod b != 0) = false := by rw [hr]; rfl
      have hr2 : 0 ≤ a.tmod b := by omega
      clear hr hn b1
      go_enter Tryz.func85, Tryz.ntmps85
      go_wp2
      go_ret
      exact ⟨rfl, rfl⟩
    · rw [hn, if_neg hr]
      have hr' : (a.tmod b != 0) = true := by rw [bne_iff_ne]; exact hr
      have hr2 : a.tmod b ≤ -1 := by omega
      clear hr hn b1
      go_enter Tryz.func85, Tryz.ntmps85
      go_wp2
      go_ret
      exact ⟨rfl, rfl⟩
set_option maxHeartbeats 800000 in
theorem l02Floor_any (a b : Int) (w : World) (h1 : -9223372036854775807 ≤ a) (h2 : a ≤ 9223372036854775807) (h3 : 1 ≤ b) (h4 : b ≤ 9223372036854775807) :
    Calls Tryz.prog 126 #[.int .i64 a, .int .i64 b] w fun e w' => e = .returned (.int .i64 (a / b)) ∧ w = w' := by
  by_cases ha : 0 ≤ a
  · have hda : decide (a < 0) = false := decide_eq_false (by omega)
    have hdb : decide (b < 0) = false := decide_eq_false (by omega)
    have q0 : 0 ≤ a / b := Int.ediv_nonneg ha (by omega)
    have q1 : a / b ≤ a := Int.ediv_le_self b ha
    have r0 : 0 ≤ a % b := Int.emod_nonneg a (by omega)
    have r1 : a % b < b := Int.emod_lt_of_pos a (by omega)
    by_cases hr : a % b = 0
    · have hr' : (a % b != 0) = false := by rw [hr]; rfl
      have hr2 : a % b ≤ 0 := by omega
      clear hr
      go_enter Tryz.func126, Tryz.ntmps126
      go_wp2
      go_ret
      exact ⟨rfl, rfl⟩
    · have hr' : (a % b != 0) = true := by rw [bne_iff_ne]; exact hr
      have hr2 : 1 ≤ a % b := by omega
      clear hr
      go_enter Tryz.func126, Tryz.ntmps126
      go_wp2
      go_ret
      exact ⟨rfl, rfl⟩
  · have hda : decide (a < 0) = true := decide_eq_true (by omega)
    have hdb : decide (b < 0) = false := decide_eq_false (by omega)
    have hn := floor_neg a b (by omega) h3
    have b1 := tdiv_bd a b
    have q0 : -9223372036854775807 ≤ a.tdiv b := by omega
    obtain ⟨r0, r1, q1⟩ := neg_quo a b (by omega) h3
    by_cases hr : a.tmod b = 0
    · rw [hn, if_pos hr]
      have hr' : (a.tmod b != 0) = false := by rw [hr]; rfl
      have hr2 : 0 ≤ a.tmod b := by omega
      clear hr hn b1
      go_enter Tryz.func126, Tryz.ntmps126
      go_wp2
      go_ret
      exact ⟨rfl, rfl⟩
    · rw [hn, if_neg hr]
      have hr' : (a.tmod b != 0) = true := by rw [bne_iff_ne]; exact hr
      have hr2 : a.tmod b ≤ -1 := by omega
      clear hr hn b1
      go_enter Tryz.func126, Tryz.ntmps126
      go_wp2
      go_ret
      exact ⟨rfl, rfl⟩
end Go.Proofs.YtlpglibnjmjjkaaGreatDoor
namespace Go.Proofs.YtlpglibnjmjjkaaGreatDoor
open Go.RowKit
set_option linter.unusedVariables false
attribute [local go_sem ↓] Go.wp_at_zero Go.wp_at_succ


set_option maxHeartbeats 800000 in
theorem l02Make_any (num den : Int) (w : World) (h1 : -9223372036854775807 ≤ num) (h2 : num ≤ 9223372036854775807) (h3 : 1 ≤ den) (h4 : den ≤ 9223372036854775807) :
    Calls Tryz.prog 83 #[.int .i64 num, .int .i64 den] w fun e w' => e = .returned (.agg #[.int .i64 (num.tdiv (Int.gcd num den : Nat)), .int .i64 (den.tdiv (Int.gcd num den : Nat))]) ∧ Below w.heap.size w w' := by
  have hg := gcd_pos (a := num) (.inr (show 0 < den by omega))
  have hgle : Int.gcd num den ≤ den.natAbs := Int.gcd_le_natAbs_right num (by omega)
  obtain ⟨d, rfl⟩ := Int.eq_ofNat_of_zero_le (show 0 ≤ den by omega)
  have hc : ∀ w, Calls Tryz.prog 114 #[.int .i64 (num.natAbs : Int), .int .i64 (d : Int)] w fun e w' => e = .returned (.int .i64 (Int.gcd num (d : Int) : Nat)) ∧ w = w' := fun w => l02Gcd_any num.natAbs d w (by omega) (by omega)
  obtain ⟨g, hgd⟩ : ∃ g, g = Int.gcd num (d : Int) := ⟨_, rfl⟩
  rw [← hgd] at hg hgle ⊢
  simp only [← hgd] at hc
  have Hc := Lib.hid hc
  have b1 := tdiv_bd num (g : Int)
  have b2 := tdiv_bd (d : Int) (g : Int)
  have b1a : -9223372036854775807 ≤ num.tdiv (g : Int) := by omega
  have b1b : num.tdiv (g : Int) ≤ 9223372036854775807 := by omega
  have b2a : 0 ≤ (d : Int).tdiv (g : Int) := Int.tdiv_nonneg (by omega) (by omega)
  have b2b : (d : Int).tdiv (g : Int) ≤ 9223372036854775807 := by omega
  have b3a : 0 ≤ (d : Int) / (g : Int) := Int.ediv_nonneg (by omega) (by omega)
  have b3b : (d : Int) / (g : Int) ≤ 9223372036854775807 := by have := Int.ediv_le_self (g : Int) (show 0 ≤ (d : Int) by omega); omega
  have hg1 : 1 ≤ (g : Int) := by omega
  clear hgd hc b1 b2 hg
  go_enter Tryz.func83, Tryz.ntmps83
  go_wp2_with (first | (go_at_call 55; refine (l02Size_any _ _ (by omega) (by omega)).mono ?_; rintro e w1 ⟨rfl, rfl⟩) | (go_at_call 114; refine (Hc.out _).mono ?_; rintro e w1 ⟨rfl, rfl⟩))
  go_region
  go_wp2
  exact bodyPost_ret (v := .agg #[.int .i64 (num.tdiv (g : Int)), .int .i64 ((d : Int).tdiv (g : Int))]) (by simp [results, Tryz.results83, go_sem]) rfl ⟨rfl, by go_grown⟩

set_option maxHeartbeats 1600000 in
theorem l02Full_any (num den : Int) (w : World) (h1 : -9223372036854775807 ≤ num) (h2 : num ≤ 9223372036854775807) (h3 : -9223372036854775807 ≤ den) (h4 : den ≤ 9223372036854775807) (h5 : den < 0 ∨ 0 < den) :
    Calls Tryz.prog 127 #[.int .i64 num, .int .i64 den] w fun e w' => e = .returned (.tuple #[.agg #[.int .i64 (plR num den).1, .int .i64 (plR num den).2.1], .int .i64 (plR num den).2.2]) ∧ Below w.heap.size w w' := by
  have hG : plG num den = if den < 0 then -(Int.gcd num den : Int) else (Int.gcd num den : Int) := rfl
  rcases h5 with h5 | h5
  · have hm := fun w => l02Make_any (-num) (-den) w (by omega) (by omega) (by omega) (by omega)
    have hgg : Int.gcd (-num) (-den) = Int.gcd num den := by simp
    have hX : num.tdiv (-(Int.gcd num den:Int)) = ((-num)).tdiv (Int.gcd num den : Int) := by first | rfl | rw [Int.tdiv_neg, Int.neg_tdiv]
    have hY : den.tdiv (-(Int.gcd num den:Int)) = ((-den)).tdiv (Int.gcd num den : Int) := by first | rfl | rw [Int.tdiv_neg, Int.neg_tdiv]
    rw [plR_eq (hG.trans (if_pos (by omega))), hX, hY]
    rw [hgg] at hm
    obtain ⟨X, hXX⟩ : ∃ X, X = ((-num)).tdiv (Int.gcd num den : Int) := ⟨_, rfl⟩
    obtain ⟨Y, hYY⟩ : ∃ Y, Y = ((-den)).tdiv (Int.gcd num den : Int) := ⟨_, rfl⟩
    rw [← hXX, ← hYY]
    simp only [← hXX, ← hYY] at hm
    have Hm := Lib.hid hm
    clear hG hX hY hXX hYY hgg hm
    cases hv : vfB X Y
    · simp only [Bool.false_eq_true, if_false]
      go_enter Tryz.func127, Tryz.ntmps127
      go_wp2_with fail
      refine (Hm.out _).mono ?_
      rintro e w1 ⟨rfl, hb1⟩
      obtain ⟨hc1, hf1, hs1⟩ := keepc hb1
      have hl1 : w.heap.size < w1.heap.size := by simp at hs1; omega
      have hB1 : Below w.heap.size w w1 := Below.trans (by go_grown) (hb1.mono (by simp))
      go_wp2_with fail
      refine (l02Ok_any _ _ _).mono ?_
      rintro e w2 ⟨rfl, hb2⟩
      obtain ⟨hc2, hf2, hs2⟩ := keepc hb2
      have hl2 : w.heap.size < w2.heap.size := by have := hb2.size; simp at this; omega
      have hl3 : w1.heap.size < w2.heap.size := by have := hb2.size; simp at this; omega
      have hB : Below w.heap.size w w2 := (hB1.alloc (by omega) _).trans (hb2.mono (by simp; omega))
      have z0 : w2.cell? ⟨w.heap.size, 0, none⟩ = some (.int .i64 0) := by rw [hc2 _ _ (by simp; omega)]; simp [go_sem, hc1, hl1]
      have z1 : w2.cell? ⟨w.heap.size, 1, none⟩ = some (.int .i64 0) := by rw [hc2 _ _ (by simp; omega)]; simp [go_sem, hc1, hl1]
      go_wp2_with fail
      exact bodyPost_ret (v := .tuple #[.agg #[.int .i64 0, .int .i64 0], .int .i64 5]) (by simp [results, Tryz.results127, go_sem, pair_set z0 z1]) rfl ⟨rfl, (hB.setCell (p := ⟨w.heap.size, 0, none⟩) (Nat.le_refl _) _).setCell (p := ⟨w.heap.size, 1, none⟩) (Nat.le_refl _) _⟩
    · simp only [if_true]
      go_enter Tryz.func127, Tryz.ntmps127
      go_wp2_with fail
      refine (Hm.out _).mono ?_
      rintro e w1 ⟨rfl, hb1⟩
      obtain ⟨hc1, hf1, hs1⟩ := keepc hb1
      have hl1 : w.heap.size < w1.heap.size := by simp at hs1; omega
      have hB1 : Below w.heap.size w w1 := Below.trans (by go_grown) (hb1.mono (by simp))
      go_wp2_with fail
      refine (l02Ok_any _ _ _).mono ?_
      rintro e w2 ⟨rfl, hb2⟩
      obtain ⟨hc2, hf2, hs2⟩ := keepc hb2
      have hl2 : w.heap.size < w2.heap.size := by have := hb2.size; simp at this; omega
      have hl3 : w1.heap.size < w2.heap.size := by have := hb2.size; simp at this; omega
      have hB : Below w.heap.size w w2 := (hB1.alloc (by omega) _).trans (hb2.mono (by simp; omega))
      have z0 : w2.cell? ⟨w.heap.size, 0, none⟩ = some (.int .i64 0) := by rw [hc2 _ _ (by simp; omega)]; simp [go_sem, hc1, hl1]
      have z1 : w2.cell? ⟨w.heap.size, 1, none⟩ = some (.int .i64 0) := by rw [hc2 _ _ (by simp; omega)]; simp [go_sem, hc1, hl1]
      go_wp2_with fail
      exact bodyPost_ret (v := .tuple #[.agg #[.int .i64 X, .int .i64 Y], .int .i64 0]) (by simp [results, Tryz.results127, go_sem, pair_set z0 z1]) rfl ⟨rfl, (hB.setCell (p := ⟨w.heap.size, 0, none⟩) (Nat.le_refl _) _).setCell (p := ⟨w.heap.size, 1, none⟩) (Nat.le_refl _) _⟩
  · have hm := fun w => l02Make_any num den w (by omega) (by omega) (by omega) (by omega)
    have hgg : Int.gcd num den = Int.gcd num den := by simp
    have hX : num.tdiv (Int.gcd num den:Int) = (num).tdiv (Int.gcd num den : Int) := by first | rfl | rw [Int.tdiv_neg, Int.neg_tdiv]
    have hY : den.tdiv (Int.gcd num den:Int) = (den).tdiv (Int.gcd num den : Int) := by first | rfl | rw [Int.tdiv_neg, Int.neg_tdiv]
    rw [plR_eq (hG.trans (if_neg (by omega))), hX, hY]
    rw [hgg] at hm
    obtain ⟨X, hXX⟩ : ∃ X, X = (num).tdiv (Int.gcd num den : Int) := ⟨_, rfl⟩
    obtain ⟨Y, hYY⟩ : ∃ Y, Y = (den).tdiv (Int.gcd num den : Int) := ⟨_, rfl⟩
    rw [← hXX, ← hYY]
    simp only [← hXX, ← hYY] at hm
    have Hm := Lib.hid hm
    clear hG hX hY hXX hYY hgg hm
    cases hv : vfB X Y
    · simp only [Bool.false_eq_true, if_false]
      go_enter Tryz.func127, Tryz.ntmps127
      go_wp2_with fail
      refine (Hm.out _).mono ?_
      rintro e w1 ⟨rfl, hb1⟩
      obtain ⟨hc1, hf1, hs1⟩ := keepc hb1
      have hl1 : w.heap.size < w1.heap.size := by simp at hs1; omega
      have hB1 : Below w.heap.size w w1 := Below.trans (by go_grown) (hb1.mono (by simp))
      go_wp2_with fail
      refine (l02Ok_any _ _ _).mono ?_
      rintro e w2 ⟨rfl, hb2⟩
      obtain ⟨hc2, hf2, hs2⟩ := keepc hb2
      have hl2 : w.heap.size < w2.heap.size := by have := hb2.size; simp at this; omega
      have hl3 : w1.heap.size < w2.heap.size := by have := hb2.size; simp at this; omega
      have hB : Below w.heap.size w w2 := (hB1.alloc (by omega) _).trans (hb2.mono (by simp; omega))
      have z0 : w2.cell? ⟨w.heap.size, 0, none⟩ = some (.int .i64 0) := by rw [hc2 _ _ (by simp; omega)]; simp [go_sem, hc1, hl1]
      have z1 : w2.cell? ⟨w.heap.size, 1, none⟩ = some (.int .i64 0) := by rw [hc2 _ _ (by simp; omega)]; simp [go_sem, hc1, hl1]
      go_wp2_with fail
      exact bodyPost_ret (v := .tuple #[.agg #[.int .i64 0, .int .i64 0], .int .i64 5]) (by simp [results, Tryz.results127, go_sem, pair_set z0 z1]) rfl ⟨rfl, (hB.setCell (p := ⟨w.heap.size, 0, none⟩) (Nat.le_refl _) _).setCell (p := ⟨w.heap.size, 1, none⟩) (Nat.le_refl _) _⟩
    · simp only [if_true]
      go_enter Tryz.func127, Tryz.ntmps127
      go_wp2_with fail
      refine (Hm.out _).mono ?_
      rintro e w1 ⟨rfl, hb1⟩
      obtain ⟨hc1, hf1, hs1⟩ := keepc hb1
      have hl1 : w.heap.size < w1.heap.size := by simp at hs1; omega
      have hB1 : Below w.heap.size w w1 := Below.trans (by go_grown) (hb1.mono (by simp))
      go_wp2_with fail
      refine (l02Ok_any _ _ _).mono ?_
      rintro e w2 ⟨rfl, hb2⟩
      obtain ⟨hc2, hf2, hs2⟩ := keepc hb2
      have hl2 : w.heap.size < w2.heap.size := by have := hb2.size; simp at this; omega
      have hl3 : w1.heap.size < w2.heap.size := by have := hb2.size; simp at this; omega
      have hB : Below w.heap.size w w2 := (hB1.alloc (by omega) _).trans (hb2.mono (by simp; omega))
      have z0 : w2.cell? ⟨w.heap.size, 0, none⟩ = some (.int .i64 0) := by rw [hc2 _ _ (by simp; omega)]; simp [go_sem, hc1, hl1]
      have z1 : w2.cell? ⟨w.heap.size, 1, none⟩ = some (.int .i64 0) := by rw [hc2 _ _ (by simp; omega)]; simp [go_sem, hc1, hl1]
      go_wp2_with fail
      exact bodyPost_ret (v := .tuple #[.agg #[.int .i64 X, .int .i64 Y], .int .i64 0]) (by simp [results, Tryz.results127, go_sem, pair_set z0 z1]) rfl ⟨rfl, (hB.setCell (p := ⟨w.heap.size, 0, none⟩) (Nat.le_refl _) _).setCell (p := ⟨w.heap.size, 1, none⟩) (Nat.le_refl _) _⟩

/-- What an operation on two fractions hands back: the plain fraction of num / den, or a code. -/
def opR (p q r s num den : Int) : Int × Int × Int := if vfB p q = true ∧ vfB r s = true then plR num den else (0, 0, 1)
theorem opR_t {p q r s num den : Int} (h1 : vfB p q = true) (h2 : vfB r s = true) : opR p q r s num den = plR num den := if_pos ⟨h1, h2⟩
theorem opR_a {p q r s num den : Int} (h1 : vfB p q = false) : opR p q r s num den = (0, 0, 1) := if_neg (fun h => by rw [h1] at h; cases h.1)
theorem opR_b {p q r s num den : Int} (h2 : vfB r s = false) : opR p q r s num den = (0, 0, 1) := if_neg (fun h => by rw [h2] at h; cases h.2)

end Go.Proofs.YtlpglibnjmjjkaaGreatDoor
namespace Go.Proofs.YtlpglibnjmjjkaaGreatDoor
open Go.RowKit
set_option linter.unusedVariables false

/-- A term with a sign, behind the first place. -/
def psE (_ : Nat) (t : Int × Int) : Bool := (t.1 == 1 || t.1 == -1) && inB t.2 1 1000000000
/-- A term with a sign at its place. -/
def sgnE (k : Nat) (t : Int × Int) : Bool := if k = 0 then t.1 == 1 && inB t.2 (-1000000000) 1000000000 else psE k t
/-- A list is one of terms with signs. -/
def sgnB (zs : List (Int × Int)) : Bool := inB (zs.length : Int) 1 60 && allK sgnE 0 zs
def FoundB (V : Bool) (w : World) (e : Ending) (w' : World) : Prop := ∃ r : Int, e = .returned (.int .i64 r) ∧ (V = true → r = -1) ∧ (V = false → 0 ≤ r) ∧ Below w.heap.size w w'

theorem sgn_tail {zs : List (Int × Int)} {y : Int} (h0 : zs[0]? = some (1, y)) (hl : inB (zs.length : Int) 1 60 = true) (hy : inB y (-1000000000) 1000000000 = true) : sgnB zs = allK psE 0 zs.tail := by
  unfold sgnB
  rw [hl, Bool.true_and]
  match zs, h0 with
  | t :: r, h0 =>
    simp at h0; subst h0
    show (sgnE 0 (1, y) && allK sgnE 1 r) = allK psE 0 r
    rw [show sgnE 0 (1, y) = true from by unfold sgnE; rw [if_pos rfl]; simpa using hy, Bool.true_and]
    cases hp : allK psE 0 r
    · cases ht : allK sgnE 1 r
      · rfl
      · exfalso
        have : allK psE 0 r = true := allK_t psE r 0 fun k z hk => by
          have := allK_at sgnE r 1 k z ht hk
          unfold sgnE at this
          rw [if_neg (by omega)] at this
          exact this
        rw [this] at hp; cases hp
    · exact allK_t sgnE r 1 fun k z hk => by
        have := allK_at psE r 0 k z hp hk
        unfold sgnE
        rw [if_neg (by omega)]
        exact this
theorem sgn_bad {zs : List (Int × Int)} {k : Nat} {t : Int × Int} (h : zs[k]? = some t) (hf : sgnE k t = false) : sgnB zs = false := by
  unfold sgnB; rw [allK_f sgnE zs 0 k t h (by rw [Nat.zero_add]; exact hf)]; simp

theorem vs_closure (x y : Int) (w : World) : Calls Tryz.prog 81 #[.agg #[.int .i64 x, .int .i64 y]] w fun e w' => e = .returned (.bool (!psE 0 (x, y))) ∧ Below w.heap.size w w' := by
  by_cases h1 : x = 1
  · subst h1
    rw [show psE 0 (1, y) = inB y 1 1000000000 from by unfold psE; simp]
    go_enter Tryz.func81, Tryz.ntmps81
    go_wp2_with (go_at_call 78; refine (within_any _ _ _ _).mono ?_; rintro e w1 ⟨rfl, rfl⟩)
    go_ret
    exact ⟨rfl, by go_grown⟩
  · by_cases h2 : x = -1
    · subst h2
      rw [show psE 0 (-1, y) = inB y 1 1000000000 from by unfold psE; simp]
      clear h1
      go_enter Tryz.func81, Tryz.ntmps81
      go_wp2_with (go_at_call 78; refine (within_any _ _ _ _).mono ?_; rintro e w1 ⟨rfl, rfl⟩)
      go_ret
      exact ⟨rfl, by go_grown⟩
    · rw [show psE 0 (x, y) = false from by unfold psE; simp [h1, h2]]
      have e1 : (x != 1) = true := by rw [bne_iff_ne]; exact h1
      have e2 : (x != -1) = true := by rw [bne_iff_ne]; exact h2
      clear h1 h2
      go_enter Tryz.func81, Tryz.ntmps81
      go_wp2_with (go_at_call 78; refine (within_any _ _ _ _).mono ?_; rintro e w1 ⟨rfl, rfl⟩)
      go_ret
      exact ⟨rfl, by go_grown⟩
theorem vs_index (A : Option Addr) (n cap : Nat) (zs : List (Int × Int)) (w : World) (h : PRow w A n zs) :
    Calls Tryz.prog 112 #[.slice A n cap, .func (.func 81) #[] #[]] w (FoundB (allK psE 0 zs) w) := by
  have hbd := h.bd
  have Hl := Lib.hid h.len
  have hw := Lib.hid h; clear h
  go_enter Tryz.func112, Tryz.ntmps112
  go_wp2
  go_loopw [8] (fun i wr => ∃ k : Nat, k ≤ n ∧ i = .int .i64 k ∧ Hid (Upto psE zs k) ∧ Below w.heap.size w wr) (fun i _ => n - (intOf i).toNat)
  case atStart => exact ⟨0, Nat.zero_le _, rfl, Upto.zero _ _, Below.refl _ _⟩
  case round =>
    obtain ⟨k, hk, rfl, HU, hb⟩ := hrel
    by_cases hlt : k < n
    · obtain ⟨bb, o, x, y, rfl, hz, _, _, _, _, hc1, hc2⟩ := (hw.out.below hb).at_ hlt
      have HZ := Lib.hid hz; clear hz
      cases hp : psE 0 (x, y)
      · go_wp2_with fail
        refine (vs_closure x y _).mono ?_
        rintro e w2 ⟨rfl, hb2⟩
        go_wp2_with fail
        go_ret
        exact ⟨_, rfl, (fun hV => by rw [allK_f psE zs 0 k _ HZ.out hp] at hV; cases hV), (fun _ => by omega), hb.trans (hb2.mono hb.size)⟩
      · go_wp2_with fail
        refine (vs_closure x y _).mono ?_
        rintro e w2 ⟨rfl, hb2⟩
        have hb3 := hb.trans (hb2.mono hb.size)
        go_wp2_with fail
        go_roundw
        case rel => exact ⟨k + 1, by omega, by go_num, HU.out.step HZ.out hp, hb3⟩
        case measure => simp [intOf]; omega
    · obtain rfl : n = k := by omega
      go_wp2
      go_ret
      have hV := HU.out.all (by have := Hl.out; omega)
      exact ⟨_, rfl, (fun _ => rfl), (fun h => (by rw [hV] at h; cases h)), hb⟩
theorem vs_contains (A : Option Addr) (n cap : Nat) (zs : List (Int × Int)) (w : World) (h : PRow w A n zs) :
    Calls Tryz.prog 80 #[.slice A n cap, .func (.func 81) #[] #[]] w fun e w' => e = .returned (.bool (!allK psE 0 zs)) ∧ Below w.heap.size w w' := by
  cases hV : allK psE 0 zs
  · go_enter Tryz.func80, Tryz.ntmps80
    go_wp2_with fail
    refine (vs_index A n cap zs _ h).mono ?_
    rintro e w1 ⟨r, rfl, _, h2, hb⟩
    have h3 := h2 hV
    clear h2
    go_wp2_with fail
    go_ret
    exact ⟨rfl, hb⟩
  · go_enter Tryz.func80, Tryz.ntmps80
    go_wp2_with fail
    refine (vs_index A n cap zs _ h).mono ?_
    rintro e w1 ⟨r, rfl, h1, _, hb⟩
    have h3 := h1 hV
    subst h3
    clear h1
    go_wp2_with fail
    go_ret
    exact ⟨rfl, hb⟩

theorem sgn_in {l : List (Int × Int)} (h : sgnB l = true) : 1 ≤ l.length ∧ l.length ≤ 60 ∧ ∀ z ∈ l, (z.1 = 1 ∨ z.1 = -1) ∧ -1000000000 ≤ z.2 ∧ z.2 ≤ 1000000000 := by
  unfold sgnB at h
  rw [Bool.and_eq_true, inB_iff] at h
  obtain ⟨⟨h1, h2⟩, h3⟩ := h
  refine ⟨by omega, by omega, fun z hz => ?_⟩
  obtain ⟨k, hk⟩ := List.mem_iff_getElem?.1 hz
  have hh := allK_at sgnE l 0 k z h3 hk
  unfold sgnE at hh
  split at hh
  · rw [Bool.and_eq_true, beq_iff_eq, inB_iff] at hh
    exact ⟨.inl hh.1, hh.2⟩
  · unfold psE at hh
    rw [Bool.and_eq_true, Bool.or_eq_true, beq_iff_eq, beq_iff_eq, inB_iff] at hh
    exact ⟨hh.1, by omega, hh.2.2⟩
theorem PRow.tail {w : World} {b o n : Nat} {zs : List (Int × Int)} (h : PRow w (some ⟨b, o, none⟩) n zs) (hn : 1 ≤ n) : PRow w (some ⟨b, o + 2, none⟩) (n - 1) zs.tail := by
  refine ⟨by rw [List.length_tail, h.1], by have := h.2.1; omega, fun z hz => h.2.2.1 z (List.mem_of_mem_tail hz), ?_⟩
  have hd := h.2.2.2.drop_ 2
  have e : (prs zs).drop 2 = prs zs.tail := by
    match zs with
    | [] => rfl
    | t :: r => rfl
  rw [e] at hd
  exact hd

set_option maxHeartbeats 1600000 in
theorem validSigned_any (A : Option Addr) (n cap : Nat) (zs : List (Int × Int)) (w : World) (h : PRow w A n zs) (hcap : n ≤ cap) :
    Calls Tryz.prog 36 #[.slice A n cap] w fun e w' => e = .returned (.bool (sgnB zs)) ∧ Below w.heap.size w w' := by
  have hbd := h.bd
  have hlen := h.len
  by_cases hn : 1 ≤ n ∧ n ≤ 60
  · obtain ⟨hn1, hn2⟩ := hn
    obtain ⟨bb, o, x, y, rfl, hz, _, _, _, _, hc1, hc2⟩ := h.at_ (k := 0) (by omega)
    have hi : inB (n : Int) 1 60 = true := inB_t (by omega) (by omega)
    have hi' : inB (zs.length : Int) 1 60 = true := by rw [hlen]; exact hi
    simp only [Nat.zero_mul, Nat.add_zero] at hc1 hc2
    by_cases hx : x = 1
    · subst hx
      cases hb : inB y (-1000000000) 1000000000
      · rw [sgn_bad hz (by unfold sgnE; rw [if_pos rfl]; simp [hb])]
        clear hz hlen hi'
        go_enter Tryz.func36, Tryz.ntmps36
        go_wp2_with (first | (go_at_call 79; go_in) | (go_at_call 78; refine (within_any _ _ _ _).mono ?_; rintro e w1 ⟨rfl, rfl⟩))
        go_ret
        exact ⟨rfl, Below.refl _ _⟩
      · rw [sgn_tail hz hi' hb]
        have ht := h.tail hn1
        clear hz hlen hi'
        by_cases hc : cap = 1
        · obtain rfl : n = 1 := by omega
          subst hc
          have HT : Hid (zs.tail = []) := List.eq_nil_of_length_eq_zero (by rw [ht.len])
          have ht' : PRow w (some ⟨bb, o, none⟩) 0 zs.tail := by rw [HT.out]; exact ⟨rfl, by omega, by simp, Rd.nil⟩
          clear ht h
          go_enter Tryz.func36, Tryz.ntmps36
          go_wp2_with (first | (go_at_call 79; go_in) | (go_at_call 78; refine (within_any _ _ _ _).mono ?_; rintro e w1 ⟨rfl, rfl⟩))
          refine (vs_contains _ 0 _ zs.tail _ ht').mono ?_
          rintro e w1 ⟨rfl, hb1⟩
          go_wp2_with fail
          go_ret
          exact ⟨ret_bool (by simp), hb1⟩
        · clear h
          go_enter Tryz.func36, Tryz.ntmps36
          go_wp2_with (first | (go_at_call 79; go_in) | (go_at_call 78; refine (within_any _ _ _ _).mono ?_; rintro e w1 ⟨rfl, rfl⟩))
          refine (vs_contains _ (n - 1) _ zs.tail _ ht).mono ?_
          rintro e w1 ⟨rfl, hb1⟩
          go_wp2_with fail
          go_ret
          exact ⟨ret_bool (by simp), hb1⟩
    · rw [sgn_bad hz (by unfold sgnE; rw [if_pos rfl]; simp [hx])]
      have e1 : (x != 1) = true := by rw [bne_iff_ne]; exact hx
      clear hz hlen hi' hx
      go_enter Tryz.func36, Tryz.ntmps36
      go_wp2_with (first | (go_at_call 79; go_in) | (go_at_call 78; refine (within_any _ _ _ _).mono ?_; rintro e w1 ⟨rfl, rfl⟩))
      go_ret
      exact ⟨rfl, Below.refl _ _⟩
  · rw [show sgnB zs = false from by unfold sgnB; rw [hlen, inB_f (by omega)]; rfl]
    have hi : inB (n : Int) 1 60 = false := inB_f (by omega)
    clear hn hlen
    go_enter Tryz.func36, Tryz.ntmps36
    go_wp2_with (first | (go_at_call 79; go_in) | (go_at_call 78; refine (within_any _ _ _ _).mono ?_; rintro e w1 ⟨rfl, rfl⟩))
    go_ret
    exact ⟨rfl, Below.refl _ _⟩

set_option maxHeartbeats 3200000 in
theorem l04Ok_any (A : Option Addr) (n cap : Nat) (zs : List (Int × Int)) (w : World) (h : PRow w A n zs) :
    Calls Tryz.prog 65 #[.slice A n cap] w fun e w' => e = .returned (.bool (sgnB zs)) ∧ w = w' := by
  have hbd := h.bd
  have hlen := h.len
  have Hl := Lib.hid hlen
  obtain ⟨V, hV⟩ : ∃ V, V = sgnB zs := ⟨_, rfl⟩
  rw [← hV]
  have HV := Lib.hid hV; clear hV hlen
  have hw := Lib.hid h; clear h
  go_enter Tryz.func65, Tryz.ntmps65
  go_wp2
  go_loop [3] (fun i => ∃ k : Nat, k ≤ n ∧ i = .int .i64 k ∧ Hid (Upto sgnE zs k)) (fun i => n - (intOf i).toNat)
  case atStart => exact ⟨0, Nat.zero_le _, rfl, Upto.zero _ _⟩
  case round =>
    obtain ⟨k, hk, rfl, HU⟩ := hrel
    by_cases hlt : k < n
    · obtain ⟨bb, o, x, y, rfl, hz, _, _, _, _, hc1, hc2⟩ := hw.out.at_ hlt
      have HZ := Lib.hid hz; clear hz
      rcases (by omega : k ≤ 0 ∨ 1 ≤ k) with a1 | a1
      · have hk0 : k = 0 := by omega
        have hd1 : w.cell? ⟨bb, o, none⟩ = some (.int .i64 x) := by rw [hk0] at hc1; simpa using hc1
        have hd2 : w.cell? ⟨bb, o + 1, none⟩ = some (.int .i64 y) := by rw [hk0] at hc2; simpa using hc2
        have HE : Hid (sgnE k (x, y) = (x == 1 && inB y (-1000000000) 1000000000)) := by show sgnE k (x, y) = _; unfold sgnE; rw [if_pos hk0]
        clear hk0
        cases hb : inB y (-1000000000) 1000000000
        · have HF : Hid (sgnB zs = false) := sgn_bad HZ.out (by rw [HE.out, hb]; simp)
          go_wp2_with (go_at_call 86; refine (l00In_any _ _ _ _).mono ?_; rintro e w1 ⟨rfl, rfl⟩)
          go_ret
          exact ⟨ret_bool (by rw [HV.out, HF.out]), rfl⟩
        · by_cases hx : x = 1
          · have HN := Lib.hid (HU.out.step HZ.out (by rw [HE.out, hb, hx]; rfl))
            have hx1 : x ≤ 1 := by omega
            have hx2 : 1 ≤ x := by omega
            clear hx
            go_wp2_with (go_at_call 86; refine (l00In_any _ _ _ _).mono ?_; rintro e w1 ⟨rfl, rfl⟩)
            go_round
            case rel => exact ⟨k + 1, by omega, by go_num, HN⟩
            case measure => simp [intOf]; omega
          · have HF : Hid (sgnB zs = false) := sgn_bad HZ.out (by rw [HE.out, show (x == 1) = false from by rw [beq_eq_false_iff_ne]; exact hx]; rfl)
            have e1 : (x != 1) = true := by rw [bne_iff_ne]; exact hx
            clear hx
            go_wp2_with (go_at_call 86; refine (l00In_any _ _ _ _).mono ?_; rintro e w1 ⟨rfl, rfl⟩)
            go_ret
            exact ⟨ret_bool (by rw [HV.out, HF.out]), rfl⟩
      · have HE : Hid (sgnE k (x, y) = ((x == 1 || x == -1) && inB y 1 1000000000)) := by show sgnE k (x, y) = _; unfold sgnE; rw [if_neg (by omega)]; rfl
        cases hb : inB y 1 1000000000
        · have HF : Hid (sgnB zs = false) := sgn_bad HZ.out (by rw [HE.out, hb]; simp)
          go_wp2_with (go_at_call 86; refine (l00In_any _ _ _ _).mono ?_; rintro e w1 ⟨rfl, rfl⟩)
          go_ret
          exact ⟨ret_bool (by rw [HV.out, HF.out]), rfl⟩
        · by_cases hx : x = 1
          · have HN := Lib.hid (HU.out.step HZ.out (by rw [HE.out, hb, hx]; rfl))
            have hx1 : x ≤ 1 := by omega
            have hx2 : 1 ≤ x := by omega
            clear hx
            go_wp2_with (go_at_call 86; refine (l00In_any _ _ _ _).mono ?_; rintro e w1 ⟨rfl, rfl⟩)
            go_round
            case rel => exact ⟨k + 1, by omega, by go_num, HN⟩
            case measure => simp [intOf]; omega
          · by_cases hx' : x = -1
            · have HN := Lib.hid (HU.out.step HZ.out (by rw [HE.out, hb, hx']; rfl))
              have hx1 : x ≤ -1 := by omega
              have hx2 : -1 ≤ x := by omega
              have e1 : (x != 1) = true := by rw [bne_iff_ne]; exact hx
              clear hx hx'
              go_wp2_with (go_at_call 86; refine (l00In_any _ _ _ _).mono ?_; rintro e w1 ⟨rfl, rfl⟩)
              go_round
              case rel => exact ⟨k + 1, by omega, by go_num, HN⟩
              case measure => simp [intOf]; omega
            · have HF : Hid (sgnB zs = false) := sgn_bad HZ.out (by rw [HE.out, show (x == 1) = false from by (rw [beq_eq_false_iff_ne]; exact hx), show (x == -1) = false from by (rw [beq_eq_false_iff_ne]; exact hx')]; rfl)
              have e1 : (x != 1) = true := by rw [bne_iff_ne]; exact hx
              have e2 : (x != -1) = true := by rw [bne_iff_ne]; exact hx'
              clear hx hx'
              go_wp2_with (go_at_call 86; refine (l00In_any _ _ _ _).mono ?_; rintro e w1 ⟨rfl, rfl⟩)
              go_ret
              exact ⟨ret_bool (by rw [HV.out, HF.out]), rfl⟩
    · obtain rfl : n = k := by omega
      have HA : Hid (allK sgnE 0 zs = true) := HU.out.all (by have := Hl.out; omega)
      go_wp2_with (go_at_call 86; refine (l00In_any _ _ _ _).mono ?_; rintro e w1 ⟨rfl, rfl⟩)
      go_ret
      exact ⟨ret_bool (by rw [HV.out]; unfold sgnB; rw [HA.out, Bool.and_true, Hl.out]), rfl⟩
theorem specValidSigned_any (A : Option Addr) (n cap : Nat) (zs : List (Int × Int)) (w : World) (h : PRow w A n zs) :
    Calls Tryz.prog 37 #[.slice A n cap] w fun e w' => e = .returned (.bool (sgnB zs)) ∧ w = w' := by
  go_enter Tryz.func37, Tryz.ntmps37
  go_wp2_with fail
  refine (l04Ok_any A n cap zs _ h).mono ?_
  rintro e w1 ⟨rfl, rfl⟩
  go_wp2_with fail
  go_ret
  exact ⟨rfl, rfl⟩
end Go.Proofs.YtlpglibnjmjjkaaGreatDoor
namespace Go.Proofs.YtlpglibnjmjjkaaGreatDoor
open Go.RowKit
set_option linter.unusedVariables false
attribute [local go_sem ↓] Go.wp_at_zero Go.wp_at_succ

/-- The short terms of a quotient. -/
def expN (a : Int) (b : Nat) : List Int := if h : b = 0 then [] else (a / (b : Int)) :: expN b (a % (b : Int)).toNat
termination_by b
decreasing_by
  have := Int.emod_lt_of_pos a (show (0 : Int) < b by omega)
  have := Int.emod_nonneg a (show (b : Int) ≠ 0 by omega)
  omega
theorem expN_zero (a : Int) : expN a 0 = [] := by rw [expN]; simp
theorem expN_pos {a : Int} {b : Nat} (h : 0 < b) : expN a b = (a / (b : Int)) :: expN b (a % (b : Int)).toNat := by rw [expN]; simp [show b ≠ 0 by omega]
theorem mod_bd (a : Int) {b : Nat} (h : 0 < b) : 0 ≤ a % (b : Int) ∧ a % (b : Int) < b :=
  ⟨Int.emod_nonneg a (by omega), Int.emod_lt_of_pos a (by omega)⟩
theorem quo_bd (a : Int) {b : Nat} (h : 0 < b) (h1 : -1000000000 ≤ a) (h2 : a ≤ 1000000000) : -1000000000 ≤ a / (b : Int) ∧ a / (b : Int) ≤ 1000000000 := by
  have hb : (0 : Int) < b := by omega
  refine ⟨(Int.le_ediv_iff_mul_le hb).2 ?_, ?_⟩
  · have : (1000000000 : Int) * 1 ≤ 1000000000 * b := Int.mul_le_mul_of_nonneg_left (by omega) (by omega)
    omega
  · rcases Int.lt_or_le a 0 with h' | h'
    · have := Int.ediv_neg_of_neg_of_pos h' hb; omega
    · have := Int.ediv_le_self (b : Int) h'; omega
theorem quo_mul (a : Int) {b : Nat} (h : 0 < b) : a - a / (b : Int) * b = a % (b : Int) := by
  have := Int.mul_ediv_add_emod a b
  rw [Int.mul_comm] at this; omega
theorem expN_len (b : Nat) : ∀ a, (expN a b).length ≤ b := by
  induction b using Nat.strongRecOn with
  | ind b ih =>
    intro a
    rcases Nat.eq_zero_or_pos b with h | h
    · subst h; rw [expN_zero]; exact Nat.le_refl _
    · rw [expN_pos h, List.length_cons]
      have := mod_bd a h
      have := ih (a % (b : Int)).toNat (by omega) b
      omega
theorem expN_rng (b : Nat) : ∀ a, -1000000000 ≤ a → a ≤ 1000000000 → b ≤ 1000000000 → ∀ z ∈ expN a b, -1000000000 ≤ z ∧ z ≤ 1000000000 := by
  induction b using Nat.strongRecOn with
  | ind b ih =>
    intro a h1 h2 h3 z hz
    rcases Nat.eq_zero_or_pos b with h | h
    · subst h; rw [expN_zero] at hz; cases hz
    · rw [expN_pos h, List.mem_cons] at hz
      have hm := mod_bd a h
      rcases hz with rfl | hz
      · exact quo_bd a h h1 h2
      · exact ih _ (by omega) b (by omega) (by omega) (by omega) z hz

set_option maxRecDepth 100000 in
set_option maxHeartbeats 1600000 in
theorem expand_any (p : Int) (d : Nat) (w : World) (h1 : -1000000000 ≤ p) (h2 : p ≤ 1000000000) (h3 : d ≤ 1000000000) :
    Calls Tryz.prog 42 #[.int .i64 p, .int .i64 (d : Int)] w fun e w' => RetI w.heap.size (expN p d) e w' ∧ Below w.heap.size w w' := by
  obtain ⟨i0, hi, hz0, hz1, hz2⟩ := info_parts info_i64
  go_enter Tryz.func42, Tryz.ntmps42
  go_wp2_with fail
  go_loopw [0, 1, 5] (fun u v l wr => ∃ (x : Int) (y j : Nat) (A : Option Addr) (c : Nat) (zs : List Int), u = .int .i64 x ∧ v = .int .i64 (y : Int) ∧ l = .slice A j c ∧ -1000000000 ≤ x ∧ x ≤ 1000000000 ∧ y ≤ 1000000000 ∧ j + y ≤ 1000000000 ∧
    wr.ownsRow w.heap.size 2 1 (.slice A j c) j (zs.map (Value.int .i64)) ∧ Hid (zs ++ expN x y = expN p d) ∧ Below w.heap.size w wr) (fun _ v _ _ => (intOf v).toNat)
  case atStart => exact ⟨p, d, 0, none, 0, [], rfl, rfl, rfl, h1, h2, h3, by omega, World.ownsRow_nil .., rfl, Below.refl _ _⟩
  case round =>
    obtain ⟨x, y, j, A, c, zs, rfl, rfl, rfl, x1, x2, y2, jy, hown, HE, hB⟩ := hrel
    have HO := Lib.hid hown
    have HF := Lib.hid hown.lt
    have hbase : w.heap.size ≤ wr.heap.size := hB.size
    clear hown
    by_cases hy : y = 0
    · have hy' : (y : Int) ≤ 0 := by omega
      have HY := Lib.hid hy
      clear hy
      go_wp2_with fail
      go_ret
      have he : zs = expN p d := by have := HE.out; rw [HY.out, expN_zero, List.append_nil] at this; exact this
      have hl := own_lenI HO.out
      subst hl
      refine ⟨⟨A, c, by rw [← he]; rfl, by rw [← he]; exact HO.out⟩, hB⟩
    · have hy1 : 1 ≤ (y : Int) := by omega
      have hp : 0 < y := by omega
      obtain ⟨q0, q1⟩ := quo_bd x hp x1 x2
      have hm := mod_bd x hp
      have hq := quo_mul x hp
      have s0 : 0 ≤ x - x / (y : Int) * y := by omega
      have s1 : x - x / (y : Int) * y < y := by omega
      have m0 : -9223372036854775807 ≤ x / (y : Int) * y := by omega
      have m1 : x / (y : Int) * y ≤ 9223372036854775807 := by omega
      have HQ := Lib.hid hq
      have HP := Lib.hid hp
      have hbn : ((y : Int) != 0) = true := by rw [bne_iff_ne]; omega
      clear hq hp hm hy
      go_wp2_with fail
      refine (floorDiv_any x (y : Int) _ (by omega) (by omega) (by omega) (by omega)).mono ?_
      rintro e w' ⟨rfl, rfl⟩
      go_wp2_with (first | (at_builtin; refine wpList_append_lies _ rfl (.tmp 12) (.tmp 14) 28 rfl w.heap.size 2 i0 (.int .i64 0) 1 8 Tryz.underlying28 hi hz0 hz1 hz2 rfl (by decide) _ j (zs.map (Value.int .i64)) (by rfl) (HO.out.alloc _) ⟨wr.heap.size, 0, none⟩ 1 1 [.int .i64 (x / (y : Int))] (by rfl) rfl ?cells (by simp [Value.oneCell']) (by decide) (by show j + 1 ≤ 9223372036854775807; omega) (by omega) (by simp; omega) (wr.heap.size + 1) (by simp) ?_; rotate_left; intro g cap1 wn hown1 hgrow hat hlt1))
      case cells => exact fun j u hu => newcell (by simp) hu
      go_roundw
      case rel =>
        refine ⟨y, (x % (y : Int)).toNat, j + 1, _, _, zs ++ [x / (y : Int)], rfl, ?_, rfl, by omega, by omega, ?_, ?_, by rw [List.map_append]; exact hown1, ?_, (hB.alloc hbase _).grown hgrow (by simp; omega) (fun k hk => (HF.out k hk).1)⟩
        · have := HQ.out; rw [this, Int.toNat_of_nonneg (mod_bd x HP.out).1]
        · have := mod_bd x HP.out; omega
        · have := mod_bd x HP.out; omega
        · rw [List.append_assoc, List.singleton_append, ← expN_pos HP.out]; exact HE.out
      case measure => simp [intOf]; omega

/-- The short terms of a plain fraction, and the code. -/
def expL (p q : Int) : List Int := if vfB p q = true then expN p q.toNat else []
def expC (p q : Int) : Int := if vfB p q = true then 0 else 1
theorem expL_len (p q : Int) : (expL p q).length ≤ 1000000000 := by
  unfold expL
  split
  · rename_i h
    have := vfB_iff.1 h
    have := expN_len q.toNat p
    omega
  · exact Nat.zero_le _
theorem expL_rng (p q : Int) : ∀ z ∈ expL p q, Rng z := by
  intro z hz
  unfold expL at hz
  split at hz
  · rename_i h
    have := vfB_iff.1 h
    have := expN_rng q.toNat p (by omega) (by omega) (by omega) z hz
    unfold Rng; omega
  · cases hz

theorem implExpand_any (p q : Int) (w : World) :
    Calls Tryz.prog 7 #[.agg #[.int .i64 p, .int .i64 q]] w fun e w' => ResI w.heap.size (expL p q) (expC p q) e w' ∧ Below w.heap.size w w' := by
  cases hv : vfB p q
  · rw [show expL p q = [] from if_neg (by simp [hv]), show expC p q = 1 from if_neg (by simp [hv])]
    go_enter Tryz.func7, Tryz.ntmps7
    go_wp2_with fail
    refine (validFraction_any p q _).mono ?_
    rintro e w1 ⟨rfl, hb1⟩
    obtain ⟨hc1, hf1, hs1⟩ := keepc hb1
    have hB1 : Below w.heap.size w w1 := Below.trans (by go_grown) (hb1.mono (by first | exact Nat.le_refl _ | (simp only [World.size_alloc]; omega)))
    try simp only [World.size_alloc] at hs1
    have hl1_0 : w.heap.size < w1.heap.size := by omega
    go_wp2_with fail
    go_ret2
    exact ⟨⟨none, 0, rfl, World.ownsRow_nil ..⟩, hB1⟩
  · rw [show expL p q = expN p q.toNat from if_pos hv, show expC p q = 0 from if_pos hv]
    obtain ⟨v1, v2, v3, v4, _⟩ := vfB_iff.1 hv
    obtain ⟨d, rfl⟩ := Int.eq_ofNat_of_zero_le (show 0 ≤ q by omega)
    rw [Int.toNat_natCast]
    go_enter Tryz.func7, Tryz.ntmps7
    go_wp2_with fail
    refine (validFraction_any p d _).mono ?_
    rintro e w1 ⟨rfl, hb1⟩
    obtain ⟨hc1, hf1, hs1⟩ := keepc hb1
    have hB1 : Below w.heap.size w w1 := Below.trans (by go_grown) (hb1.mono (by first | exact Nat.le_refl _ | (simp only [World.size_alloc]; omega)))
    try simp only [World.size_alloc] at hs1
    have hl1_0 : w.heap.size < w1.heap.size := by omega
    go_wp2_with fail
    refine (expand_any p d _ v3 v4 (by omega)).mono ?_
    rintro e w2 ⟨⟨A2, c2, rfl, ho2⟩, hb2⟩
    obtain ⟨hc2, hf2, hs2⟩ := keepc hb2
    have hB2 : Below w.heap.size w w2 := hB1.trans (hb2.mono (by have := hB1.size; omega))
    have hl2_0 : w.heap.size < w2.heap.size := by omega
    have HO := Lib.hid ho2
    clear ho2
    go_wp2_with fail
    go_ret2
    exact ⟨⟨A2, c2, rfl, own_base HO.out (by omega)⟩, hB2⟩
end Go.Proofs.YtlpglibnjmjjkaaGreatDoor
