/-
  Contracts of the arithmetic of fractions: lowest terms, comparison, sum, difference, product, quotient, mediant, floor, in the program and in the reference.
  No condition but that the integers are int64 (and not the least one where an absolute value is taken).
-/
import Derived.Test.YtlpglibnjmjjkaaProg
import Derived.Test.YtlpglibnjmjjkaaMem
import Derived.Test.YtlpglibnjmjjkaaBasic
import Derived.Test.YtlpglibnjmjjkaaFrac
import Derived.Test.YtlpglibnjmjjkaaVfrac
import Derived.Handy
import Derived.RegionTactic
import Derived.BigRegion
import Derived.BigQuiet
import Derived.Deep.QuietTactic
import Derived.Deep.RegionHeld3
import Derived.Deep.DrawnRows
namespace Go.Proofs.Ytlpglibnjmjjkaa
open Go.RowKit
set_option linter.unusedVariables false
attribute [local go_sem ↓] Go.wp_at_zero Go.wp_at_succ

theorem tdiv_bd (a b : Int) : (a.tdiv b).natAbs ≤ a.natAbs := by rw [Int.natAbs_tdiv]; exact Nat.div_le_self _ _
theorem gcd_pos {a b : Int} (h : b < 0 ∨ 0 < b) : 1 ≤ Int.gcd a b := Int.gcd_pos_of_ne_zero_right _ (by omega)

/-- The plain fraction that is equal to num / den, and a code. -/
def plG (num den : Int) : Int := if den < 0 then -(Int.gcd num den : Int) else (Int.gcd num den : Int)
def plR (num den : Int) : Int × Int × Int :=
  if vfB (num.tdiv (plG num den)) (den.tdiv (plG num den)) = true then (num.tdiv (plG num den), den.tdiv (plG num den), 0) else (0, 0, 5)
theorem plR_t {num den : Int} (h : vfB (num.tdiv (plG num den)) (den.tdiv (plG num den)) = true) : plR num den = (num.tdiv (plG num den), den.tdiv (plG num den), 0) := if_pos h
theorem plR_f {num den : Int} (h : vfB (num.tdiv (plG num den)) (den.tdiv (plG num den)) = false) : plR num den = (0, 0, 5) := if_neg (by rw [h]; decide)

theorem plR_eq {num den d : Int} (hd : plG num den = d) : plR num den = if vfB (num.tdiv d) (den.tdiv d) = true then (num.tdiv d, den.tdiv d, 0) else (0, 0, 5) := by subst hd; rfl

set_option maxHeartbeats 1600000 in
theorem plainOf_any (num den : Int) (w : World) (h1 : -9223372036854775807 ≤ num) (h2 : num ≤ 9223372036854775807) (h3 : -9223372036854775807 ≤ den) (h4 : den ≤ 9223372036854775807) (h5 : den < 0 ∨ 0 < den) :
    Calls Try.prog 26 #[.int .i64 num, .int .i64 den] w fun e w' => e = .returned (.tuple #[.agg #[.int .i64 (plR num den).1, .int .i64 (plR num den).2.1], .int .i64 (plR num den).2.2]) ∧ Below w.heap.size w w' := by
  have hg := gcd_pos (a := num) h5
  have hgle : Int.gcd num den ≤ den.natAbs := Int.gcd_le_natAbs_right num (by omega)
  have hc := fun w => gcd_any num den w h1 h2 h3 h4
  obtain ⟨g, hgd⟩ : ∃ g, g = Int.gcd num den := ⟨_, rfl⟩
  have hG : plG num den = if den < 0 then -(g : Int) else (g : Int) := by unfold plG; rw [← hgd]
  rw [← hgd] at hg hgle
  simp only [← hgd] at hc
  have Hc := Lib.hid hc
  clear hgd hc
  rcases h5 with h5 | h5
  · have hX : num.tdiv (-(g:Int)) = (-(num.tdiv (g:Int))) := by first | rfl | exact Int.tdiv_neg num (g : Int)
    have hY : den.tdiv (-(g:Int)) = (-(den.tdiv (g:Int))) := by first | rfl | exact Int.tdiv_neg den (g : Int)
    rw [plR_eq (hG.trans (if_pos (by omega))), hX, hY]
    have b1 := tdiv_bd num (g : Int)
    have b2 := tdiv_bd den (g : Int)
    have b1a : -9223372036854775807 ≤ (-(num.tdiv (g:Int))) := by omega
    have b1b : (-(num.tdiv (g:Int))) ≤ 9223372036854775807 := by omega
    have b2a : -9223372036854775807 ≤ (-(den.tdiv (g:Int))) := by omega
    have b2b : (-(den.tdiv (g:Int))) ≤ 9223372036854775807 := by omega
    have hd0 : (-(g:Int)) < 0 ∨ 0 < (-(g:Int)) := by omega
    have hg1 : 1 ≤ (g : Int) := by omega
    have hg2 : (g : Int) ≤ 9223372036854775807 := by omega
    clear b1 b2 hG hg hgle hX hY
    cases hv : vfB (-(num.tdiv (g:Int))) (-(den.tdiv (g:Int)))
    · simp only [Bool.false_eq_true, if_false]
      go_enter Try.func26, Try.ntmps26
      go_wp2_with (first | (go_at_call 51; refine (Hc.out _).mono ?_; rintro e w1 ⟨rfl, m, rfl⟩))
      go_region
      go_wp2_with fail
      refine (validFraction_any _ _ _).mono ?_
      rintro e w2 ⟨rfl, hb2⟩
      obtain ⟨hc2, hf2, hs2⟩ := keepc hb2
      have hl2 : w.heap.size + 1 < w2.heap.size := by have := hb2.size; simp at this; omega
      have hl2' : w.heap.size < w2.heap.size := by omega
      have hB : Below w.heap.size w w2 := Below.trans (((Below.trans ((Below.refl _ _).alloc (Nat.le_refl _) _) (below_drewN _ _ _)).alloc (by simp) _)) (hb2.mono (by simp; omega))
      have z0 : w2.cell? ⟨w.heap.size, 0, none⟩ = some (.int .i64 0) := by rw [hc2 _ _ (by simp; omega)]; simp [go_sem]
      have z1 : w2.cell? ⟨w.heap.size, 1, none⟩ = some (.int .i64 0) := by rw [hc2 _ _ (by simp; omega)]; simp [go_sem]
      go_wp2_with fail
      exact bodyPost_ret (v := .tuple #[.agg #[.int .i64 0, .int .i64 0], .int .i64 5]) (by simp [results, Try.results26, go_sem, pair_set z0 z1]) rfl ⟨rfl, (hB.setCell (p := ⟨w.heap.size, 0, none⟩) (Nat.le_refl _) _).setCell (p := ⟨w.heap.size, 1, none⟩) (Nat.le_refl _) _⟩
    · simp only [if_true]
      go_enter Try.func26, Try.ntmps26
      go_wp2_with (first | (go_at_call 51; refine (Hc.out _).mono ?_; rintro e w1 ⟨rfl, m, rfl⟩))
      go_region
      go_wp2_with fail
      refine (validFraction_any _ _ _).mono ?_
      rintro e w2 ⟨rfl, hb2⟩
      obtain ⟨hc2, hf2, hs2⟩ := keepc hb2
      have hl2 : w.heap.size + 1 < w2.heap.size := by have := hb2.size; simp at this; omega
      have hl2' : w.heap.size < w2.heap.size := by omega
      have hB : Below w.heap.size w w2 := Below.trans (((Below.trans ((Below.refl _ _).alloc (Nat.le_refl _) _) (below_drewN _ _ _)).alloc (by simp) _)) (hb2.mono (by simp; omega))
      have z0 : w2.cell? ⟨w.heap.size, 0, none⟩ = some (.int .i64 0) := by rw [hc2 _ _ (by simp; omega)]; simp [go_sem]
      have z1 : w2.cell? ⟨w.heap.size, 1, none⟩ = some (.int .i64 0) := by rw [hc2 _ _ (by simp; omega)]; simp [go_sem]
      go_wp2_with fail
      exact bodyPost_ret (v := .tuple #[.agg #[.int .i64 (-(num.tdiv (g:Int))), .int .i64 (-(den.tdiv (g:Int)))], .int .i64 0]) (by simp [results, Try.results26, go_sem, pair_set z0 z1]) rfl ⟨rfl, (hB.setCell (p := ⟨w.heap.size, 0, none⟩) (Nat.le_refl _) _).setCell (p := ⟨w.heap.size, 1, none⟩) (Nat.le_refl _) _⟩
  · have hX : num.tdiv (g:Int) = (num.tdiv (g:Int)) := by first | rfl | exact Int.tdiv_neg num (g : Int)
    have hY : den.tdiv (g:Int) = (den.tdiv (g:Int)) := by first | rfl | exact Int.tdiv_neg den (g : Int)
    rw [plR_eq (hG.trans (if_neg (by omega))), hX, hY]
    have b1 := tdiv_bd num (g : Int)
    have b2 := tdiv_bd den (g : Int)
    have b1a : -9223372036854775807 ≤ (num.tdiv (g:Int)) := by omega
    have b1b : (num.tdiv (g:Int)) ≤ 9223372036854775807 := by omega
    have b2a : -9223372036854775807 ≤ (den.tdiv (g:Int)) := by omega
    have b2b : (den.tdiv (g:Int)) ≤ 9223372036854775807 := by omega
    have hd0 : (g:Int) < 0 ∨ 0 < (g:Int) := by omega
    have hg1 : 1 ≤ (g : Int) := by omega
    have hg2 : (g : Int) ≤ 9223372036854775807 := by omega
    clear b1 b2 hG hg hgle hX hY
    cases hv : vfB (num.tdiv (g:Int)) (den.tdiv (g:Int))
    · simp only [Bool.false_eq_true, if_false]
      go_enter Try.func26, Try.ntmps26
      go_wp2_with (first | (go_at_call 51; refine (Hc.out _).mono ?_; rintro e w1 ⟨rfl, m, rfl⟩))
      go_region
      go_wp2_with fail
      refine (validFraction_any _ _ _).mono ?_
      rintro e w2 ⟨rfl, hb2⟩
      obtain ⟨hc2, hf2, hs2⟩ := keepc hb2
      have hl2 : w.heap.size + 1 < w2.heap.size := by have := hb2.size; simp at this; omega
      have hl2' : w.heap.size < w2.heap.size := by omega
      have hB : Below w.heap.size w w2 := Below.trans (((Below.trans ((Below.refl _ _).alloc (Nat.le_refl _) _) (below_drewN _ _ _)).alloc (by simp) _)) (hb2.mono (by simp; omega))
      have z0 : w2.cell? ⟨w.heap.size, 0, none⟩ = some (.int .i64 0) := by rw [hc2 _ _ (by simp; omega)]; simp [go_sem]
      have z1 : w2.cell? ⟨w.heap.size, 1, none⟩ = some (.int .i64 0) := by rw [hc2 _ _ (by simp; omega)]; simp [go_sem]
      go_wp2_with fail
      exact bodyPost_ret (v := .tuple #[.agg #[.int .i64 0, .int .i64 0], .int .i64 5]) (by simp [results, Try.results26, go_sem, pair_set z0 z1]) rfl ⟨rfl, (hB.setCell (p := ⟨w.heap.size, 0, none⟩) (Nat.le_refl _) _).setCell (p := ⟨w.heap.size, 1, none⟩) (Nat.le_refl _) _⟩
    · simp only [if_true]
      go_enter Try.func26, Try.ntmps26
      go_wp2_with (first | (go_at_call 51; refine (Hc.out _).mono ?_; rintro e w1 ⟨rfl, m, rfl⟩))
      go_region
      go_wp2_with fail
      refine (validFraction_any _ _ _).mono ?_
      rintro e w2 ⟨rfl, hb2⟩
      obtain ⟨hc2, hf2, hs2⟩ := keepc hb2
      have hl2 : w.heap.size + 1 < w2.heap.size := by have := hb2.size; simp at this; omega
      have hl2' : w.heap.size < w2.heap.size := by omega
      have hB : Below w.heap.size w w2 := Below.trans (((Below.trans ((Below.refl _ _).alloc (Nat.le_refl _) _) (below_drewN _ _ _)).alloc (by simp) _)) (hb2.mono (by simp; omega))
      have z0 : w2.cell? ⟨w.heap.size, 0, none⟩ = some (.int .i64 0) := by rw [hc2 _ _ (by simp; omega)]; simp [go_sem]
      have z1 : w2.cell? ⟨w.heap.size, 1, none⟩ = some (.int .i64 0) := by rw [hc2 _ _ (by simp; omega)]; simp [go_sem]
      go_wp2_with fail
      exact bodyPost_ret (v := .tuple #[.agg #[.int .i64 (num.tdiv (g:Int)), .int .i64 (den.tdiv (g:Int))], .int .i64 0]) (by simp [results, Try.results26, go_sem, pair_set z0 z1]) rfl ⟨rfl, (hB.setCell (p := ⟨w.heap.size, 0, none⟩) (Nat.le_refl _) _).setCell (p := ⟨w.heap.size, 1, none⟩) (Nat.le_refl _) _⟩

/-- -1, 0 or 1. -/
def cmpI (x y : Int) : Int := if x < y then -1 else if y < x then 1 else 0

theorem neg_quo (a b : Int) (ha : a < 0) (hb : 1 ≤ b) : a.tmod b ≤ 0 ∧ -b < a.tmod b ∧ a.tdiv b ≤ 0 := by
  have e1 : a.tmod b = -((-a) % b) := by rw [← Int.tmod_eq_emod_of_nonneg (by omega), Int.neg_tmod]; omega
  have e2 : a.tdiv b = -((-a) / b) := by rw [← Int.tdiv_eq_ediv_of_nonneg (by omega), Int.neg_tdiv]; omega
  have h1 := Int.emod_nonneg (-a) (show b ≠ 0 by omega)
  have h2 := Int.emod_lt_of_pos (-a) (show 0 < b by omega)
  have h3 : 0 ≤ (-a) / b := Int.ediv_nonneg (by omega) (by omega)
  omega
theorem floor_neg (a b : Int) (ha : a < 0) (hb : 1 ≤ b) : a / b = if a.tmod b = 0 then a.tdiv b else a.tdiv b - 1 := by
  have h1 := Int.mul_tdiv_add_tmod a b
  obtain ⟨h2, h3, _⟩ := neg_quo a b ha hb
  have e : ∀ q r : Int, b * q + r = a → 0 ≤ r → r < b → a / b = q := fun q r he h0 hb' =>
    ((Int.ediv_emod_unique (a := a) (r := r) (q := q) (b := b) (by omega)).2 ⟨by rw [Int.add_comm]; exact he, h0, hb'⟩).1
  split
  · rename_i h0
    exact e _ (a.tmod b) h1 (by omega) (by omega)
  · refine e _ (a.tmod b + b) ?_ (by omega) (by omega)
    rw [Int.mul_sub, Int.mul_one]; omega

set_option maxHeartbeats 800000 in
theorem floorDiv_any (a b : Int) (w : World) (h1 : -9223372036854775807 ≤ a) (h2 : a ≤ 9223372036854775807) (h3 : 1 ≤ b) (h4 : b ≤ 9223372036854775807) :
    Calls Try.prog 66 #[.int .i64 a, .int .i64 b] w fun e w' => e = .returned (.int .i64 (a / b)) ∧ w = w' := by
  by_cases ha : 0 ≤ a
  · have hda : decide (a < 0) = false := decide_eq_false (by omega)
    have hdb : decide (b < 0) = false := decide_eq_false (by omega)
    have q0 : 0 ≤ a / b := Int.ediv_nonneg ha (by omega)
    have q1 : a / b ≤ a := Int.ediv_le_self b ha
    have r0 : 0 ≤ a % b := Int.emod_nonneg a (by omega)
    have r1 : a % b < b := Int.emod_lt_of_pos a (by omega)
    by_cases hr : a % b = 0
    · have hr' : (a % b != 0) = false := by rw [hr]; rfl
      have hr2 : a % b ≤ 0 := by omega
      clear hr
      go_enter Try.func66, Try.ntmps66
      go_wp2
      go_ret
      exact ⟨rfl, rfl⟩
    · have hr' : (a % b != 0) = true := by rw [bne_iff_ne]; exact hr
      have hr2 : 1 ≤ a % b := by omega
      clear hr
      go_enter Try.func66, Try.ntmps66
      go_wp2
      go_ret
      exact ⟨rfl, rfl⟩
  · have hda : decide (a < 0) = true := decide_eq_true (by omega)
    have hdb : decide (b < 0) = false := decide_eq_false (by omega)
    have hn := floor_neg a b (by omega) h3
    have b1 := tdiv_bd a b
    have q0 : -9223372036854775807 ≤ a.tdiv b := by omega
    obtain ⟨r0, r1, q1⟩ := neg_quo a b (by omega) h3
    by_cases hr : a.tmod b = 0
    · rw [hn, if_pos hr]
      have hr' : (a.tmod b != 0) = false := by rw [hr]; rfl
      have hr2 : 0 ≤ a.tmod b := by omega
      clear hr hn b1
      go_enter Try.func66, Try.ntmps66
      go_wp2
      go_ret
      exact ⟨rfl, rfl⟩
    · rw [hn, if_neg hr]
      have hr' : (a.tmod b != 0) = true := by rw [bne_iff_ne]; exact hr
      have hr2 : a.tmod b ≤ -1 := by omega
      clear hr hn b1
      go_enter Try.func66, Try.ntmps66
      go_wp2
      go_ret
      exact ⟨rfl, rfl⟩
set_option maxHeartbeats 800000 in
theorem l02Floor_any (a b : Int) (w : World) (h1 : -9223372036854775807 ≤ a) (h2 : a ≤ 9223372036854775807) (h3 : 1 ≤ b) (h4 : b ≤ 9223372036854775807) :
    Calls Try.prog 57 #[.int .i64 a, .int .i64 b] w fun e w' => e = .returned (.int .i64 (a / b)) ∧ w = w' := by
  by_cases ha : 0 ≤ a
  · have hda : decide (a < 0) = false := decide_eq_false (by omega)
    have hdb : decide (b < 0) = false := decide_eq_false (by omega)
    have q0 : 0 ≤ a / b := Int.ediv_nonneg ha (by omega)
    have q1 : a / b ≤ a := Int.ediv_le_self b ha
    have r0 : 0 ≤ a % b := Int.emod_nonneg a (by omega)
    have r1 : a % b < b := Int.emod_lt_of_pos a (by omega)
    by_cases hr : a % b = 0
    · have hr' : (a % b != 0) = false := by rw [hr]; rfl
      have hr2 : a % b ≤ 0 := by omega
      clear hr
      go_enter Try.func57, Try.ntmps57
      go_wp2
      go_ret
      exact ⟨rfl, rfl⟩
    · have hr' : (a % b != 0) = true := by rw [bne_iff_ne]; exact hr
      have hr2 : 1 ≤ a % b := by omega
      clear hr
      go_enter Try.func57, Try.ntmps57
      go_wp2
      go_ret
      exact ⟨rfl, rfl⟩
  · have hda : decide (a < 0) = true := decide_eq_true (by omega)
    have hdb : decide (b < 0) = false := decide_eq_false (by omega)
    have hn := floor_neg a b (by omega) h3
    have b1 := tdiv_bd a b
    have q0 : -9223372036854775807 ≤ a.tdiv b := by omega
    obtain ⟨r0, r1, q1⟩ := neg_quo a b (by omega) h3
    by_cases hr : a.tmod b = 0
    · rw [hn, if_pos hr]
      have hr' : (a.tmod b != 0) = false := by rw [hr]; rfl
      have hr2 : 0 ≤ a.tmod b := by omega
      clear hr hn b1
      go_enter Try.func57, Try.ntmps57
      go_wp2
      go_ret
      exact ⟨rfl, rfl⟩
    · rw [hn, if_neg hr]
      have hr' : (a.tmod b != 0) = true := by rw [bne_iff_ne]; exact hr
      have hr2 : a.tmod b ≤ -1 := by omega
      clear hr hn b1
      go_enter Try.func57, Try.ntmps57
      go_wp2
      go_ret
      exact ⟨rfl, rfl⟩
end Go.Proofs.Ytlpglibnjmjjkaa
