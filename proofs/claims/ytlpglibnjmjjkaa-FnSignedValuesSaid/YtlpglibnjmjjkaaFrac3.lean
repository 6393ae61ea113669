/-
  Contracts of the exported functions on fractions, and the walks of their laws.
  No condition but those of the laws' own texts.
-/
import Derived.Test.YtlpglibnjmjjkaaProg
import Derived.Test.YtlpglibnjmjjkaaMem
import Derived.Test.YtlpglibnjmjjkaaBasic
import Derived.Test.YtlpglibnjmjjkaaFrac
import Derived.Test.YtlpglibnjmjjkaaVfrac
import Derived.Test.YtlpglibnjmjjkaaFrac2
import Derived.Handy
import Derived.RegionTactic
import Derived.BigRegion
import Derived.BigQuiet
import Derived.Deep.QuietTactic
import Derived.Deep.RegionHeld3
import Derived.Deep.DrawnRows
import Derived.Deep.DeepCutAuto
namespace Go.Proofs.Ytlpglibnjmjjkaa
open Go.RowKit
set_option linter.unusedVariables false
attribute [local go_sem ↓] Go.wp_at_zero Go.wp_at_succ


set_option maxHeartbeats 800000 in
theorem l02Make_any (num den : Int) (w : World) (h1 : -9223372036854775807 ≤ num) (h2 : num ≤ 9223372036854775807) (h3 : 1 ≤ den) (h4 : den ≤ 9223372036854775807) :
    Calls Try.prog 58 #[.int .i64 num, .int .i64 den] w fun e w' => e = .returned (.agg #[.int .i64 (num.tdiv (Int.gcd num den : Nat)), .int .i64 (den.tdiv (Int.gcd num den : Nat))]) ∧ Below w.heap.size w w' := by
  have hg := gcd_pos (a := num) (.inr (show 0 < den by omega))
  have hgle : Int.gcd num den ≤ den.natAbs := Int.gcd_le_natAbs_right num (by omega)
  obtain ⟨d, rfl⟩ := Int.eq_ofNat_of_zero_le (show 0 ≤ den by omega)
  have hc : ∀ w, Calls Try.prog 59 #[.int .i64 (num.natAbs : Int), .int .i64 (d : Int)] w fun e w' => e = .returned (.int .i64 (Int.gcd num (d : Int) : Nat)) ∧ w = w' := fun w => l02Gcd_any num.natAbs d w (by omega) (by omega)
  obtain ⟨g, hgd⟩ : ∃ g, g = Int.gcd num (d : Int) := ⟨_, rfl⟩
  rw [← hgd] at hg hgle ⊢
  simp only [← hgd] at hc
  have Hc := Lib.hid hc
  have b1 := tdiv_bd num (g : Int)
  have b2 := tdiv_bd (d : Int) (g : Int)
  have b1a : -9223372036854775807 ≤ num.tdiv (g : Int) := by omega
  have b1b : num.tdiv (g : Int) ≤ 9223372036854775807 := by omega
  have b2a : 0 ≤ (d : Int).tdiv (g : Int) := Int.tdiv_nonneg (by omega) (by omega)
  have b2b : (d : Int).tdiv (g : Int) ≤ 9223372036854775807 := by omega
  have b3a : 0 ≤ (d : Int) / (g : Int) := Int.ediv_nonneg (by omega) (by omega)
  have b3b : (d : Int) / (g : Int) ≤ 9223372036854775807 := by have := Int.ediv_le_self (g : Int) (show 0 ≤ (d : Int) by omega); omega
  have hg1 : 1 ≤ (g : Int) := by omega
  clear hgd hc b1 b2 hg
  go_enter Try.func58, Try.ntmps58
  go_wp2_with (first | (go_at_call 54; refine (l02Size_any _ _ (by omega) (by omega)).mono ?_; rintro e w1 ⟨rfl, rfl⟩) | (go_at_call 59; refine (Hc.out _).mono ?_; rintro e w1 ⟨rfl, rfl⟩))
  go_region
  go_wp2
  exact bodyPost_ret (v := .agg #[.int .i64 (num.tdiv (g : Int)), .int .i64 ((d : Int).tdiv (g : Int))]) (by simp [results, Try.results58, go_sem]) rfl ⟨rfl, by go_grown⟩

set_option maxHeartbeats 1600000 in
theorem l02Full_any (num den : Int) (w : World) (h1 : -9223372036854775807 ≤ num) (h2 : num ≤ 9223372036854775807) (h3 : -9223372036854775807 ≤ den) (h4 : den ≤ 9223372036854775807) (h5 : den < 0 ∨ 0 < den) :
    Calls Try.prog 53 #[.int .i64 num, .int .i64 den] w fun e w' => e = .returned (.tuple #[.agg #[.int .i64 (plR num den).1, .int .i64 (plR num den).2.1], .int .i64 (plR num den).2.2]) ∧ Below w.heap.size w w' := by
  have hG : plG num den = if den < 0 then -(Int.gcd num den : Int) else (Int.gcd num den : Int) := rfl
  rcases h5 with h5 | h5
  · have hm := fun w => l02Make_any (-num) (-den) w (by omega) (by omega) (by omega) (by omega)
    have hgg : Int.gcd (-num) (-den) = Int.gcd num den := by simp
    have hX : num.tdiv (-(Int.gcd num den:Int)) = ((-num)).tdiv (Int.gcd num den : Int) := by first | rfl | rw [Int.tdiv_neg, Int.neg_tdiv]
    have hY : den.tdiv (-(Int.gcd num den:Int)) = ((-den)).tdiv (Int.gcd num den : Int) := by first | rfl | rw [Int.tdiv_neg, Int.neg_tdiv]
    rw [plR_eq (hG.trans (if_pos (by omega))), hX, hY]
    rw [hgg] at hm
    obtain ⟨X, hXX⟩ : ∃ X, X = ((-num)).tdiv (Int.gcd num den : Int) := ⟨_, rfl⟩
    obtain ⟨Y, hYY⟩ : ∃ Y, Y = ((-den)).tdiv (Int.gcd num den : Int) := ⟨_, rfl⟩
    rw [← hXX, ← hYY]
    simp only [← hXX, ← hYY] at hm
    have Hm := Lib.hid hm
    clear hG hX hY hXX hYY hgg hm
    cases hv : vfB X Y
    · simp only [Bool.false_eq_true, if_false]
      go_enter Try.func53, Try.ntmps53
      go_wp2_with fail
      refine (Hm.out _).mono ?_
      rintro e w1 ⟨rfl, hb1⟩
      obtain ⟨hc1, hf1, hs1⟩ := keepc hb1
      have hl1 : w.heap.size < w1.heap.size := by simp at hs1; omega
      have hB1 : Below w.heap.size w w1 := Below.trans (by go_grown) (hb1.mono (by simp))
      go_wp2_with fail
      refine (l02Ok_any _ _ _).mono ?_
      rintro e w2 ⟨rfl, hb2⟩
      obtain ⟨hc2, hf2, hs2⟩ := keepc hb2
      have hl2 : w.heap.size < w2.heap.size := by have := hb2.size; simp at this; omega
      have hl3 : w1.heap.size < w2.heap.size := by have := hb2.size; simp at this; omega
      have hB : Below w.heap.size w w2 := (hB1.alloc (by omega) _).trans (hb2.mono (by simp; omega))
      have z0 : w2.cell? ⟨w.heap.size, 0, none⟩ = some (.int .i64 0) := by rw [hc2 _ _ (by simp; omega)]; simp [go_sem, hc1, hl1]
      have z1 : w2.cell? ⟨w.heap.size, 1, none⟩ = some (.int .i64 0) := by rw [hc2 _ _ (by simp; omega)]; simp [go_sem, hc1, hl1]
      go_wp2_with fail
      exact bodyPost_ret (v := .tuple #[.agg #[.int .i64 0, .int .i64 0], .int .i64 5]) (by simp [results, Try.results53, go_sem, pair_set z0 z1]) rfl ⟨rfl, (hB.setCell (p := ⟨w.heap.size, 0, none⟩) (Nat.le_refl _) _).setCell (p := ⟨w.heap.size, 1, none⟩) (Nat.le_refl _) _⟩
    · simp only [if_true]
      go_enter Try.func53, Try.ntmps53
      go_wp2_with fail
      refine (Hm.out _).mono ?_
      rintro e w1 ⟨rfl, hb1⟩
      obtain ⟨hc1, hf1, hs1⟩ := keepc hb1
      have hl1 : w.heap.size < w1.heap.size := by simp at hs1; omega
      have hB1 : Below w.heap.size w w1 := Below.trans (by go_grown) (hb1.mono (by simp))
      go_wp2_with fail
      refine (l02Ok_any _ _ _).mono ?_
      rintro e w2 ⟨rfl, hb2⟩
      obtain ⟨hc2, hf2, hs2⟩ := keepc hb2
      have hl2 : w.heap.size < w2.heap.size := by have := hb2.size; simp at this; omega
      have hl3 : w1.heap.size < w2.heap.size := by have := hb2.size; simp at this; omega
      have hB : Below w.heap.size w w2 := (hB1.alloc (by omega) _).trans (hb2.mono (by simp; omega))
      have z0 : w2.cell? ⟨w.heap.size, 0, none⟩ = some (.int .i64 0) := by rw [hc2 _ _ (by simp; omega)]; simp [go_sem, hc1, hl1]
      have z1 : w2.cell? ⟨w.heap.size, 1, none⟩ = some (.int .i64 0) := by rw [hc2 _ _ (by simp; omega)]; simp [go_sem, hc1, hl1]
      go_wp2_with fail
      exact bodyPost_ret (v := .tuple #[.agg #[.int .i64 X, .int .i64 Y], .int .i64 0]) (by simp [results, Try.results53, go_sem, pair_set z0 z1]) rfl ⟨rfl, (hB.setCell (p := ⟨w.heap.size, 0, none⟩) (Nat.le_refl _) _).setCell (p := ⟨w.heap.size, 1, none⟩) (Nat.le_refl _) _⟩
  · have hm := fun w => l02Make_any num den w (by omega) (by omega) (by omega) (by omega)
    have hgg : Int.gcd num den = Int.gcd num den := by simp
    have hX : num.tdiv (Int.gcd num den:Int) = (num).tdiv (Int.gcd num den : Int) := by first | rfl | rw [Int.tdiv_neg, Int.neg_tdiv]
    have hY : den.tdiv (Int.gcd num den:Int) = (den).tdiv (Int.gcd num den : Int) := by first | rfl | rw [Int.tdiv_neg, Int.neg_tdiv]
    rw [plR_eq (hG.trans (if_neg (by omega))), hX, hY]
    rw [hgg] at hm
    obtain ⟨X, hXX⟩ : ∃ X, X = (num).tdiv (Int.gcd num den : Int) := ⟨_, rfl⟩
    obtain ⟨Y, hYY⟩ : ∃ Y, Y = (den).tdiv (Int.gcd num den : Int) := ⟨_, rfl⟩
    rw [← hXX, ← hYY]
    simp only [← hXX, ← hYY] at hm
    have Hm := Lib.hid hm
    clear hG hX hY hXX hYY hgg hm
    cases hv : vfB X Y
    · simp only [Bool.false_eq_true, if_false]
      go_enter Try.func53, Try.ntmps53
      go_wp2_with fail
      refine (Hm.out _).mono ?_
      rintro e w1 ⟨rfl, hb1⟩
      obtain ⟨hc1, hf1, hs1⟩ := keepc hb1
      have hl1 : w.heap.size < w1.heap.size := by simp at hs1; omega
      have hB1 : Below w.heap.size w w1 := Below.trans (by go_grown) (hb1.mono (by simp))
      go_wp2_with fail
      refine (l02Ok_any _ _ _).mono ?_
      rintro e w2 ⟨rfl, hb2⟩
      obtain ⟨hc2, hf2, hs2⟩ := keepc hb2
      have hl2 : w.heap.size < w2.heap.size := by have := hb2.size; simp at this; omega
      have hl3 : w1.heap.size < w2.heap.size := by have := hb2.size; simp at this; omega
      have hB : Below w.heap.size w w2 := (hB1.alloc (by omega) _).trans (hb2.mono (by simp; omega))
      have z0 : w2.cell? ⟨w.heap.size, 0, none⟩ = some (.int .i64 0) := by rw [hc2 _ _ (by simp; omega)]; simp [go_sem, hc1, hl1]
      have z1 : w2.cell? ⟨w.heap.size, 1, none⟩ = some (.int .i64 0) := by rw [hc2 _ _ (by simp; omega)]; simp [go_sem, hc1, hl1]
      go_wp2_with fail
      exact bodyPost_ret (v := .tuple #[.agg #[.int .i64 0, .int .i64 0], .int .i64 5]) (by simp [results, Try.results53, go_sem, pair_set z0 z1]) rfl ⟨rfl, (hB.setCell (p := ⟨w.heap.size, 0, none⟩) (Nat.le_refl _) _).setCell (p := ⟨w.heap.size, 1, none⟩) (Nat.le_refl _) _⟩
    · simp only [if_true]
      go_enter Try.func53, Try.ntmps53
      go_wp2_with fail
      refine (Hm.out _).mono ?_
      rintro e w1 ⟨rfl, hb1⟩
      obtain ⟨hc1, hf1, hs1⟩ := keepc hb1
      have hl1 : w.heap.size < w1.heap.size := by simp at hs1; omega
      have hB1 : Below w.heap.size w w1 := Below.trans (by go_grown) (hb1.mono (by simp))
      go_wp2_with fail
      refine (l02Ok_any _ _ _).mono ?_
      rintro e w2 ⟨rfl, hb2⟩
      obtain ⟨hc2, hf2, hs2⟩ := keepc hb2
      have hl2 : w.heap.size < w2.heap.size := by have := hb2.size; simp at this; omega
      have hl3 : w1.heap.size < w2.heap.size := by have := hb2.size; simp at this; omega
      have hB : Below w.heap.size w w2 := (hB1.alloc (by omega) _).trans (hb2.mono (by simp; omega))
      have z0 : w2.cell? ⟨w.heap.size, 0, none⟩ = some (.int .i64 0) := by rw [hc2 _ _ (by simp; omega)]; simp [go_sem, hc1, hl1]
      have z1 : w2.cell? ⟨w.heap.size, 1, none⟩ = some (.int .i64 0) := by rw [hc2 _ _ (by simp; omega)]; simp [go_sem, hc1, hl1]
      go_wp2_with fail
      exact bodyPost_ret (v := .tuple #[.agg #[.int .i64 X, .int .i64 Y], .int .i64 0]) (by simp [results, Try.results53, go_sem, pair_set z0 z1]) rfl ⟨rfl, (hB.setCell (p := ⟨w.heap.size, 0, none⟩) (Nat.le_refl _) _).setCell (p := ⟨w.heap.size, 1, none⟩) (Nat.le_refl _) _⟩

/-- What an operation on two fractions hands back: the plain fraction of num / den, or a code. -/
def opR (p q r s num den : Int) : Int × Int × Int := if vfB p q = true ∧ vfB r s = true then plR num den else (0, 0, 1)
theorem opR_t {p q r s num den : Int} (h1 : vfB p q = true) (h2 : vfB r s = true) : opR p q r s num den = plR num den := if_pos ⟨h1, h2⟩
theorem opR_a {p q r s num den : Int} (h1 : vfB p q = false) : opR p q r s num den = (0, 0, 1) := if_neg (fun h => by rw [h1] at h; cases h.1)
theorem opR_b {p q r s num den : Int} (h2 : vfB r s = false) : opR p q r s num den = (0, 0, 1) := if_neg (fun h => by rw [h2] at h; cases h.2)

end Go.Proofs.Ytlpglibnjmjjkaa
