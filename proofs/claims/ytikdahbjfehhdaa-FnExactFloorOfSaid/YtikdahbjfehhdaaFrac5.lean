/-
  Contracts of the quotient, of fractions made, compared and rounded down; the walks of their laws.
  No condition but those of the laws' own texts.
-/
import Derived.Test.YtikdahbjfehhdaaProg
import Derived.Test.YtikdahbjfehhdaaMem
import Derived.Test.YtikdahbjfehhdaaBasic
import Derived.Test.YtikdahbjfehhdaaFrac
import Derived.Test.YtikdahbjfehhdaaVfrac
import Derived.Test.YtikdahbjfehhdaaFrac2
import Derived.Test.YtikdahbjfehhdaaFrac3
import Derived.Test.YtikdahbjfehhdaaLaw2
import Derived.Handy
import Derived.BigQuiet
import Derived.Deep.QuietTactic
import Derived.Deep.RegionHeld3
import Derived.Deep.DrawnRows
import Derived.Deep.DeepCutAuto
namespace Go.Proofs.Ytikdahbjfehhdaa
open Go.RowKit
set_option linter.unusedVariables false
attribute [local go_sem ↓] Go.wp_at_zero Go.wp_at_succ


/-- What a division hands back. -/
def divR (p q r s : Int) : Int × Int × Int := if vfB p q = true ∧ vfB r s = true then (if r = 0 then (0, 0, 6) else plR (p*s) (q*r)) else (0, 0, 1)
theorem divR_t {p q r s : Int} (h1 : vfB p q = true) (h2 : vfB r s = true) (h : r ≠ 0) : divR p q r s = plR (p*s) (q*r) := by unfold divR; rw [if_pos ⟨h1, h2⟩, if_neg h]
theorem divR_z {p q r s : Int} (h1 : vfB p q = true) (h2 : vfB r s = true) (h : r = 0) : divR p q r s = (0, 0, 6) := by unfold divR; rw [if_pos ⟨h1, h2⟩, if_pos h]
theorem divR_n {p q r s : Int} (h : ¬ (vfB p q = true ∧ vfB r s = true)) : divR p q r s = (0, 0, 1) := if_neg h
set_option maxHeartbeats 1600000 in
theorem implDiv_any (p q r s : Int) (w : World) : Calls Try.prog 46 #[.agg #[.int .i64 p, .int .i64 q], .agg #[.int .i64 r, .int .i64 s]] w fun e w' =>
    e = .returned (.tuple #[.agg #[.int .i64 (divR p q r s).1, .int .i64 (divR p q r s).2.1], .int .i64 (divR p q r s).2.2]) ∧ Below w.heap.size w w' := by
  cases h1 : vfB p q
  · rw [divR_n (fun h => by rw [h1] at h; cases h.1)]
    go_enter Try.func46, Try.ntmps46
    go_wp2_with fail
    refine (validFraction_any p q _).mono ?_
    rintro e w1 ⟨rfl, hb1⟩
    obtain ⟨hc1, hf1, hs1⟩ := keepc hb1
    have hB1 : Below w.heap.size w w1 := Below.trans (by go_grown) (hb1.mono (by first | exact Nat.le_refl _ | (simp only [World.size_alloc]; omega)))
    try simp only [World.size_alloc] at hs1
    have hl1_0 : w.heap.size < w1.heap.size := by omega
    have hl1_1 : w.heap.size + 1 < w1.heap.size := by omega
    have hl1_2 : w.heap.size + 2 < w1.heap.size := by omega
    have z0 : w1.cell? ⟨w.heap.size + 2, 0, none⟩ = some (.int .i64 0) := by rw [hc1 _ _ (by simp only [World.size_alloc]; omega)]; simp [go_sem]
    have z1 : w1.cell? ⟨w.heap.size + 2, 1, none⟩ = some (.int .i64 0) := by rw [hc1 _ _ (by simp only [World.size_alloc]; omega)]; simp [go_sem]
    go_wp2_with fail
    exact bodyPost_ret (v := .tuple #[.agg #[.int .i64 0, .int .i64 0], .int .i64 1]) (by simp [results, Try.results46, go_sem, pair_set z0 z1]) rfl ⟨rfl, (hB1.setCell (p := ⟨w.heap.size + 2, 0, none⟩) (by simp) _).setCell (p := ⟨w.heap.size + 2, 1, none⟩) (by simp) _⟩
  · cases h2 : vfB r s
    · rw [divR_n (fun h => by rw [h2] at h; cases h.2)]
      go_enter Try.func46, Try.ntmps46
      go_wp2_with fail
      refine (validFraction_any p q _).mono ?_
      rintro e w1 ⟨rfl, hb1⟩
      obtain ⟨hc1, hf1, hs1⟩ := keepc hb1
      have hB1 : Below w.heap.size w w1 := Below.trans (by go_grown) (hb1.mono (by first | exact Nat.le_refl _ | (simp only [World.size_alloc]; omega)))
      try simp only [World.size_alloc] at hs1
      have hl1_0 : w.heap.size < w1.heap.size := by omega
      have hl1_1 : w.heap.size + 1 < w1.heap.size := by omega
      have hl1_2 : w.heap.size + 2 < w1.heap.size := by omega
      go_wp2_with fail
      refine (validFraction_any r s _).mono ?_
      rintro e w2 ⟨rfl, hb2⟩
      obtain ⟨hc2, hf2, hs2⟩ := keepc hb2
      have hB2 : Below w.heap.size w w2 := hB1.trans (hb2.mono (by have := hB1.size; omega))
      have hl2_0 : w.heap.size < w2.heap.size := by omega
      have hl2_1 : w.heap.size + 1 < w2.heap.size := by omega
      have hl2_2 : w.heap.size + 2 < w2.heap.size := by omega
      have z0 : w2.cell? ⟨w.heap.size + 2, 0, none⟩ = some (.int .i64 0) := by rw [hc2 _ _ (by omega), hc1 _ _ (by simp only [World.size_alloc]; omega)]; simp [go_sem]
      have z1 : w2.cell? ⟨w.heap.size + 2, 1, none⟩ = some (.int .i64 0) := by rw [hc2 _ _ (by omega), hc1 _ _ (by simp only [World.size_alloc]; omega)]; simp [go_sem]
      go_wp2_with fail
      exact bodyPost_ret (v := .tuple #[.agg #[.int .i64 0, .int .i64 0], .int .i64 1]) (by simp [results, Try.results46, go_sem, pair_set z0 z1]) rfl ⟨rfl, (hB2.setCell (p := ⟨w.heap.size + 2, 0, none⟩) (by simp) _).setCell (p := ⟨w.heap.size + 2, 1, none⟩) (by simp) _⟩
    · obtain ⟨a1, a2, a3, a4, _⟩ := vfB_iff.1 h1
      obtain ⟨b1, b2, b3, b4, _⟩ := vfB_iff.1 h2
      by_cases hr : r = 0
      · rw [divR_z h1 h2 hr]
        have hr' : (r == 0) = true := by rw [hr]; rfl
        have hr1 : r ≤ 0 := by omega
        have hr2 : 0 ≤ r := by omega
        clear hr
        go_enter Try.func46, Try.ntmps46
        go_wp2_with fail
        refine (validFraction_any p q _).mono ?_
        rintro e w1 ⟨rfl, hb1⟩
        obtain ⟨hc1, hf1, hs1⟩ := keepc hb1
        have hB1 : Below w.heap.size w w1 := Below.trans (by go_grown) (hb1.mono (by first | exact Nat.le_refl _ | (simp only [World.size_alloc]; omega)))
        try simp only [World.size_alloc] at hs1
        have hl1_0 : w.heap.size < w1.heap.size := by omega
        have hl1_1 : w.heap.size + 1 < w1.heap.size := by omega
        have hl1_2 : w.heap.size + 2 < w1.heap.size := by omega
        go_wp2_with fail
        refine (validFraction_any r s _).mono ?_
        rintro e w2 ⟨rfl, hb2⟩
        obtain ⟨hc2, hf2, hs2⟩ := keepc hb2
        have hB2 : Below w.heap.size w w2 := hB1.trans (hb2.mono (by have := hB1.size; omega))
        have hl2_0 : w.heap.size < w2.heap.size := by omega
        have hl2_1 : w.heap.size + 1 < w2.heap.size := by omega
        have hl2_2 : w.heap.size + 2 < w2.heap.size := by omega
        have z0 : w2.cell? ⟨w.heap.size + 2, 0, none⟩ = some (.int .i64 0) := by rw [hc2 _ _ (by omega), hc1 _ _ (by simp only [World.size_alloc]; omega)]; simp [go_sem]
        have z1 : w2.cell? ⟨w.heap.size + 2, 1, none⟩ = some (.int .i64 0) := by rw [hc2 _ _ (by omega), hc1 _ _ (by simp only [World.size_alloc]; omega)]; simp [go_sem]
        go_wp2_with fail
        exact bodyPost_ret (v := .tuple #[.agg #[.int .i64 0, .int .i64 0], .int .i64 6]) (by simp [results, Try.results46, go_sem, pair_set z0 z1]) rfl ⟨rfl, (hB2.setCell (p := ⟨w.heap.size + 2, 0, none⟩) (by simp) _).setCell (p := ⟨w.heap.size + 2, 1, none⟩) (by simp) _⟩
      · rw [divR_t h1 h2 hr]
        have hr' : (r == 0) = false := by rw [beq_eq_false_iff_ne]; exact hr
        obtain ⟨m1, m2⟩ := mul_bd a3 a4 (by omega) b2 (y := s)
        obtain ⟨m3, m4⟩ := mul_bd (x := q) (by omega) a2 b3 b4
        have m9 : q * r < 0 ∨ 0 < q * r := by
          rcases (by omega : r < 0 ∨ 0 < r) with h | h
          · exact .inl (Int.mul_neg_of_pos_of_neg (by omega) h)
          · exact .inr (Int.mul_pos (by omega) h)
        have M9 := Lib.hid m9
        clear hr m9
        go_enter Try.func46, Try.ntmps46
        go_wp2_with fail
        refine (validFraction_any p q _).mono ?_
        rintro e w1 ⟨rfl, hb1⟩
        obtain ⟨hc1, hf1, hs1⟩ := keepc hb1
        have hB1 : Below w.heap.size w w1 := Below.trans (by go_grown) (hb1.mono (by first | exact Nat.le_refl _ | (simp only [World.size_alloc]; omega)))
        try simp only [World.size_alloc] at hs1
        have hl1_0 : w.heap.size < w1.heap.size := by omega
        have hl1_1 : w.heap.size + 1 < w1.heap.size := by omega
        have hl1_2 : w.heap.size + 2 < w1.heap.size := by omega
        go_wp2_with fail
        refine (validFraction_any r s _).mono ?_
        rintro e w2 ⟨rfl, hb2⟩
        obtain ⟨hc2, hf2, hs2⟩ := keepc hb2
        have hB2 : Below w.heap.size w w2 := hB1.trans (hb2.mono (by have := hB1.size; omega))
        have hl2_0 : w.heap.size < w2.heap.size := by omega
        have hl2_1 : w.heap.size + 1 < w2.heap.size := by omega
        have hl2_2 : w.heap.size + 2 < w2.heap.size := by omega
        go_wp2_with fail
        refine (plainOf_any (p*s) (q*r) _ (by omega) (by omega) (by omega) (by omega) M9.out).mono ?_
        rintro e w3 ⟨rfl, hb3⟩
        obtain ⟨hc3, hf3, hs3⟩ := keepc hb3
        have hB3 : Below w.heap.size w w3 := hB2.trans (hb3.mono (by have := hB2.size; omega))
        have hl3_0 : w.heap.size < w3.heap.size := by omega
        have hl3_1 : w.heap.size + 1 < w3.heap.size := by omega
        have hl3_2 : w.heap.size + 2 < w3.heap.size := by omega
        have z0 : w3.cell? ⟨w.heap.size + 2, 0, none⟩ = some (.int .i64 0) := by rw [hc3 _ _ (by omega), hc2 _ _ (by omega), hc1 _ _ (by simp only [World.size_alloc]; omega)]; simp [go_sem]
        have z1 : w3.cell? ⟨w.heap.size + 2, 1, none⟩ = some (.int .i64 0) := by rw [hc3 _ _ (by omega), hc2 _ _ (by omega), hc1 _ _ (by simp only [World.size_alloc]; omega)]; simp [go_sem]
        go_wp2_with fail
        exact bodyPost_ret (v := .tuple #[.agg #[.int .i64 (plR (p*s) (q*r)).1, .int .i64 (plR (p*s) (q*r)).2.1], .int .i64 (plR (p*s) (q*r)).2.2]) (by simp [results, Try.results46, go_sem, pair_set z0 z1]) rfl ⟨rfl, (hB3.setCell (p := ⟨w.heap.size + 2, 0, none⟩) (by simp) _).setCell (p := ⟨w.heap.size + 2, 1, none⟩) (by simp) _⟩
set_option maxHeartbeats 1600000 in
theorem specDiv_any (p q r s : Int) (w : World) : Calls Try.prog 45 #[.agg #[.int .i64 p, .int .i64 q], .agg #[.int .i64 r, .int .i64 s]] w fun e w' =>
    e = .returned (.tuple #[.agg #[.int .i64 (divR p q r s).1, .int .i64 (divR p q r s).2.1], .int .i64 (divR p q r s).2.2]) ∧ Below w.heap.size w w' := by
  by_cases hh : vfB p q = true ∧ vfB r s = true
  · obtain ⟨h1, h2⟩ := hh
    have ht : twoC p q r s = 0 := if_pos ⟨h1, h2⟩
    obtain ⟨a1, a2, a3, a4, _⟩ := vfB_iff.1 h1
    obtain ⟨b1, b2, b3, b4, _⟩ := vfB_iff.1 h2
    by_cases hr : r = 0
    · rw [divR_z h1 h2 hr]
      have hr' : (r == 0) = true := by rw [hr]; rfl
      have hr1 : r ≤ 0 := by omega
      have hr2 : 0 ≤ r := by omega
      clear hr
      go_enter Try.func45, Try.ntmps45
      go_wp2_with fail
      refine (l02Two_any p q r s _).mono ?_
      rintro e w1 ⟨rfl, hb1⟩
      obtain ⟨hc1, hf1, hs1⟩ := keepc hb1
      have hB1 : Below w.heap.size w w1 := Below.trans (by go_grown) (hb1.mono (by first | exact Nat.le_refl _ | (simp only [World.size_alloc]; omega)))
      try simp only [World.size_alloc] at hs1
      have hl1_0 : w.heap.size < w1.heap.size := by omega
      have hl1_1 : w.heap.size + 1 < w1.heap.size := by omega
      have hl1_2 : w.heap.size + 2 < w1.heap.size := by omega
      have z0 : w1.cell? ⟨w.heap.size + 2, 0, none⟩ = some (.int .i64 0) := by rw [hc1 _ _ (by simp only [World.size_alloc]; omega)]; simp [go_sem]
      have z1 : w1.cell? ⟨w.heap.size + 2, 1, none⟩ = some (.int .i64 0) := by rw [hc1 _ _ (by simp only [World.size_alloc]; omega)]; simp [go_sem]
      go_wp2_with fail
      exact bodyPost_ret (v := .tuple #[.agg #[.int .i64 0, .int .i64 0], .int .i64 6]) (by simp [results, Try.results45, go_sem, pair_set z0 z1]) rfl ⟨rfl, (hB1.setCell (p := ⟨w.heap.size + 2, 0, none⟩) (by simp) _).setCell (p := ⟨w.heap.size + 2, 1, none⟩) (by simp) _⟩
    · rw [divR_t h1 h2 hr]
      have hr' : (r == 0) = false := by rw [beq_eq_false_iff_ne]; exact hr
      obtain ⟨m1, m2⟩ := mul_bd a3 a4 (by omega) b2 (y := s)
      obtain ⟨m3, m4⟩ := mul_bd (x := q) (by omega) a2 b3 b4
      have m9 : q * r < 0 ∨ 0 < q * r := by
        rcases (by omega : r < 0 ∨ 0 < r) with h | h
        · exact .inl (Int.mul_neg_of_pos_of_neg (by omega) h)
        · exact .inr (Int.mul_pos (by omega) h)
      have M9 := Lib.hid m9
      clear hr m9
      go_enter Try.func45, Try.ntmps45
      go_wp2_with fail
      refine (l02Two_any p q r s _).mono ?_
      rintro e w1 ⟨rfl, hb1⟩
      obtain ⟨hc1, hf1, hs1⟩ := keepc hb1
      have hB1 : Below w.heap.size w w1 := Below.trans (by go_grown) (hb1.mono (by first | exact Nat.le_refl _ | (simp only [World.size_alloc]; omega)))
      try simp only [World.size_alloc] at hs1
      have hl1_0 : w.heap.size < w1.heap.size := by omega
      have hl1_1 : w.heap.size + 1 < w1.heap.size := by omega
      have hl1_2 : w.heap.size + 2 < w1.heap.size := by omega
      go_wp2_with fail
      refine (l02Full_any (p*s) (q*r) _ (by omega) (by omega) (by omega) (by omega) M9.out).mono ?_
      rintro e w2 ⟨rfl, hb2⟩
      obtain ⟨hc2, hf2, hs2⟩ := keepc hb2
      have hB2 : Below w.heap.size w w2 := hB1.trans (hb2.mono (by have := hB1.size; omega))
      have hl2_0 : w.heap.size < w2.heap.size := by omega
      have hl2_1 : w.heap.size + 1 < w2.heap.size := by omega
      have hl2_2 : w.heap.size + 2 < w2.heap.size := by omega
      have z0 : w2.cell? ⟨w.heap.size + 2, 0, none⟩ = some (.int .i64 0) := by rw [hc2 _ _ (by omega), hc1 _ _ (by simp only [World.size_alloc]; omega)]; simp [go_sem]
      have z1 : w2.cell? ⟨w.heap.size + 2, 1, none⟩ = some (.int .i64 0) := by rw [hc2 _ _ (by omega), hc1 _ _ (by simp only [World.size_alloc]; omega)]; simp [go_sem]
      go_wp2_with fail
      exact bodyPost_ret (v := .tuple #[.agg #[.int .i64 (plR (p*s) (q*r)).1, .int .i64 (plR (p*s) (q*r)).2.1], .int .i64 (plR (p*s) (q*r)).2.2]) (by simp [results, Try.results45, go_sem, pair_set z0 z1]) rfl ⟨rfl, (hB2.setCell (p := ⟨w.heap.size + 2, 0, none⟩) (by simp) _).setCell (p := ⟨w.heap.size + 2, 1, none⟩) (by simp) _⟩
  · rw [divR_n hh]
    have ht : twoC p q r s = 1 := if_neg hh
    clear hh
    go_enter Try.func45, Try.ntmps45
    go_wp2_with fail
    refine (l02Two_any p q r s _).mono ?_
    rintro e w1 ⟨rfl, hb1⟩
    obtain ⟨hc1, hf1, hs1⟩ := keepc hb1
    have hB1 : Below w.heap.size w w1 := Below.trans (by go_grown) (hb1.mono (by first | exact Nat.le_refl _ | (simp only [World.size_alloc]; omega)))
    try simp only [World.size_alloc] at hs1
    have hl1_0 : w.heap.size < w1.heap.size := by omega
    have hl1_1 : w.heap.size + 1 < w1.heap.size := by omega
    have hl1_2 : w.heap.size + 2 < w1.heap.size := by omega
    have z0 : w1.cell? ⟨w.heap.size + 2, 0, none⟩ = some (.int .i64 0) := by rw [hc1 _ _ (by simp only [World.size_alloc]; omega)]; simp [go_sem]
    have z1 : w1.cell? ⟨w.heap.size + 2, 1, none⟩ = some (.int .i64 0) := by rw [hc1 _ _ (by simp only [World.size_alloc]; omega)]; simp [go_sem]
    go_wp2_with fail
    exact bodyPost_ret (v := .tuple #[.agg #[.int .i64 0, .int .i64 0], .int .i64 1]) (by simp [results, Try.results45, go_sem, pair_set z0 z1]) rfl ⟨rfl, (hB1.setCell (p := ⟨w.heap.size + 2, 0, none⟩) (by simp) _).setCell (p := ⟨w.heap.size + 2, 1, none⟩) (by simp) _⟩
set_option maxHeartbeats 6400000 in
theorem fnExactDivFractions_walk (p q : Int) (_ : -9223372036854775808 ≤ p) (_ : p ≤ 9223372036854775807) (_ : -9223372036854775808 ≤ q) (_ : q ≤ 9223372036854775807)
    (r s : Int) (_ : -9223372036854775808 ≤ r) (_ : r ≤ 9223372036854775807) (_ : -9223372036854775808 ≤ s) (_ : s ≤ 9223372036854775807) (w : World) :
    Calls Try.prog 13 #[.agg #[.int .i64 p, .int .i64 q], .agg #[.int .i64 r, .int .i64 s]] w fun e w' => e = .returned (.bool true) ∧ Below w.heap.size w w' := by
  obtain ⟨x, y, c, HS, HI⟩ : ∃ x y c, Hid (∀ w, Calls Try.prog 45 #[.agg #[.int .i64 p, .int .i64 q], .agg #[.int .i64 r, .int .i64 s]] w fun e w' => e = .returned (.tuple #[.agg #[.int .i64 x, .int .i64 y], .int .i64 c]) ∧ Below w.heap.size w w') ∧
      Hid (∀ w, Calls Try.prog 46 #[.agg #[.int .i64 p, .int .i64 q], .agg #[.int .i64 r, .int .i64 s]] w fun e w' => e = .returned (.tuple #[.agg #[.int .i64 x, .int .i64 y], .int .i64 c]) ∧ Below w.heap.size w w') :=
    ⟨_, _, _, fun w => specDiv_any p q r s w, fun w => implDiv_any p q r s w⟩
  go_enter Try.func13, Try.ntmps13
  go_upto_region 1 with fail
  obtain ⟨t1, t2, t3, t4, hB0, hl0⟩ := two_start w p q r s 23 23
  have hsz0 : ((w.alloc (.cells #[.int .i64 p, .int .i64 q] 23)).alloc (.cells #[.int .i64 r, .int .i64 s] 23)).heap.size = w.heap.size + 2 := by simp
  generalize (w.alloc (.cells #[.int .i64 p, .int .i64 q] 23)).alloc (.cells #[.int .i64 r, .int .i64 s] 23) = B at t1 t2 t3 t4 hB0 hl0 hsz0 ⊢
  have H0 := Lib.hid (show B.cell? ⟨w.heap.size, 0, none⟩ = some (.int .i64 p) ∧ B.cell? ⟨w.heap.size, 1, none⟩ = some (.int .i64 q) ∧ B.cell? ⟨w.heap.size + 1, 0, none⟩ = some (.int .i64 r) ∧ B.cell? ⟨w.heap.size + 1, 1, none⟩ = some (.int .i64 s) from ⟨t1, t2, t3, t4⟩)
  have HZ := Lib.hid hsz0
  clear t1 t2 t3 t4 hsz0 hl0
  go_cut [5, 6] (fun v5 v6 wx => ∃ g : Nat, v5 = .pointer (some ⟨g, 0, none⟩) ∧ v6 = .int .i64 c ∧ wx.cell? ⟨g, 0, none⟩ = some (.int .i64 x) ∧ wx.cell? ⟨g, 1, none⟩ = some (.int .i64 y) ∧ Below B.heap.size B wx)
  case first =>
    go_region_held3 (fun w' => w'.cell? ⟨w.heap.size, 0, none⟩ = some (.int .i64 p) ∧ w'.cell? ⟨w.heap.size, 1, none⟩ = some (.int .i64 q) ∧ w'.cell? ⟨w.heap.size + 1, 0, none⟩ = some (.int .i64 r) ∧ w'.cell? ⟨w.heap.size + 1, 1, none⟩ = some (.int .i64 s) ∧ Below B.heap.size B w')
      (first | exact ext_of H0.out (ext_call (ext_b (by assumption)) hb) | exact ext_of H0.out (ext_first hb) | exact ext_of H0.out (ext_call ((Below.refl _ _).drew.alloc (by simp) _) hb) | exact ext_of H0.out ((Below.refl _ _).drew) | exact ext_of H0.out (Below.alloc (ext_b (by assumption)) (ext_le (ext_b (by assumption))) _) | exact ext_of H0.out ((Below.refl _ _).drew.alloc (by simp) _) | exact ext_of H0.out (ext_swap (ext_b (by assumption)) (by omega) _) | exact ext_of H0.out (ext_set2 (ext_b (by assumption)) (by omega) _ _))
      (first | (go_at_call 16; refine (toFraction_any _ _ _).mono ?_; rintro e w1 ⟨rfl, hb⟩; obtain ⟨hcc, hff, _⟩ := keepc hb; have hz := keepr hb; have hq := hb.size; (try simp only [World.size_drew] at hq); (try simp only [World.size_alloc] at hq); (try have hq2 := Nat.lt_of_succ_le hq); (try have e0 : w1.cell? ⟨B.heap.size, 0, none⟩ = some (.int .i64 0) := by (rw [hcc _ _ (by (try simp only [World.size_drew]); (try simp only [World.size_alloc]); omega)]; simp [go_sem])); (try have e1 : w1.cell? ⟨B.heap.size, 1, none⟩ = some (.int .i64 0) := by (rw [hcc _ _ (by (try simp only [World.size_drew]); (try simp only [World.size_alloc]); omega)]; simp [go_sem]))) | (go_at_call 45; refine (HS.out _).mono ?_; rintro e w1 ⟨rfl, hb⟩; obtain ⟨hcc, hff, _⟩ := keepc hb; have hz := keepr hb; have hq := hb.size; (try simp only [World.size_drew] at hq); (try simp only [World.size_alloc] at hq); (try have hq2 := Nat.lt_of_succ_le hq); (try have e0 : w1.cell? ⟨B.heap.size, 0, none⟩ = some (.int .i64 0) := by (rw [hcc _ _ (by (try simp only [World.size_drew]); (try simp only [World.size_alloc]); omega)]; simp [go_sem])); (try have e1 : w1.cell? ⟨B.heap.size, 1, none⟩ = some (.int .i64 0) := by (rw [hcc _ _ (by (try simp only [World.size_drew]); (try simp only [World.size_alloc]); omega)]; simp [go_sem]))))
    all_goals go_wp2_with fail
    all_goals go_meet
    all_goals refine ⟨_, rfl, rfl, ?_, ?_, ext_b (by assumption)⟩
    all_goals (first | (simp [go_sem, *]; done) | (refine (pair_set (x := .int .i64 0) (y := .int .i64 0) ?_ ?_ _ _).2.1 <;> (simp [*]; (try simp [go_sem]); done)) | (refine (pair_set (x := .int .i64 0) (y := .int .i64 0) ?_ ?_ _ _).2.2 <;> (simp [*]; (try simp [go_sem]); done)))
  case rest =>
    obtain ⟨g, rfl, rfl, hx, hy, hb1⟩ := hcut
    have h1 := ext_of H0.out hb1
    clear H0
    have H0 := Lib.hid (show wc.cell? ⟨w.heap.size, 0, none⟩ = some (.int .i64 p) ∧ wc.cell? ⟨w.heap.size, 1, none⟩ = some (.int .i64 q) ∧ wc.cell? ⟨w.heap.size + 1, 0, none⟩ = some (.int .i64 r) ∧ wc.cell? ⟨w.heap.size + 1, 1, none⟩ = some (.int .i64 s) from ⟨h1.1, h1.2.1, h1.2.2.1, h1.2.2.2.1⟩)
    have hB1 : Below w.heap.size w wc := hB0.trans (hb1.mono hB0.size)
    have HX := Lib.hid hx
    have HY := Lib.hid hy
    clear h1 hb1 hB0 HZ hx hy
    obtain ⟨w0, hw0⟩ : ∃ w0 : World, w0 = wc := ⟨_, rfl⟩
    subst hw0
    go_upto_region 2 with fail
    go_cut [7, 8] (fun v7 v8 wx => ∃ g' : Nat, v7 = .pointer (some ⟨g', 0, none⟩) ∧ v8 = .int .i64 c ∧ wx.cell? ⟨g', 0, none⟩ = some (.int .i64 x) ∧ wx.cell? ⟨g', 1, none⟩ = some (.int .i64 y) ∧ Below w0.heap.size w0 wx)
    case first =>
      go_region_held3 (fun w' => w'.cell? ⟨w.heap.size, 0, none⟩ = some (.int .i64 p) ∧ w'.cell? ⟨w.heap.size, 1, none⟩ = some (.int .i64 q) ∧ w'.cell? ⟨w.heap.size + 1, 0, none⟩ = some (.int .i64 r) ∧ w'.cell? ⟨w.heap.size + 1, 1, none⟩ = some (.int .i64 s) ∧ Below w0.heap.size w0 w')
        (first | exact ext_of H0.out (ext_call (ext_b (by assumption)) hb) | exact ext_of H0.out (ext_first hb) | exact ext_of H0.out (ext_call ((Below.refl _ _).drew.alloc (by simp) _) hb) | exact ext_of H0.out ((Below.refl _ _).drew) | exact ext_of H0.out (Below.alloc (ext_b (by assumption)) (ext_le (ext_b (by assumption))) _) | exact ext_of H0.out ((Below.refl _ _).drew.alloc (by simp) _) | exact ext_of H0.out (ext_swap (ext_b (by assumption)) (by omega) _) | exact ext_of H0.out (ext_set2 (ext_b (by assumption)) (by omega) _ _))
        (first | (go_at_call 16; refine (toFraction_any _ _ _).mono ?_; rintro e w1 ⟨rfl, hb⟩; obtain ⟨hcc, hff, _⟩ := keepc hb; have hz := keepr hb; have hq := hb.size; (try simp only [World.size_drew] at hq); (try simp only [World.size_alloc] at hq); (try have hq2 := Nat.lt_of_succ_le hq); (try have e0 : w1.cell? ⟨w0.heap.size, 0, none⟩ = some (.int .i64 0) := by (rw [hcc _ _ (by (try simp only [World.size_drew]); (try simp only [World.size_alloc]); omega)]; simp [go_sem])); (try have e1 : w1.cell? ⟨w0.heap.size, 1, none⟩ = some (.int .i64 0) := by (rw [hcc _ _ (by (try simp only [World.size_drew]); (try simp only [World.size_alloc]); omega)]; simp [go_sem]))) | (go_at_call 46; refine (HI.out _).mono ?_; rintro e w1 ⟨rfl, hb⟩; obtain ⟨hcc, hff, _⟩ := keepc hb; have hz := keepr hb; have hq := hb.size; (try simp only [World.size_drew] at hq); (try simp only [World.size_alloc] at hq); (try have hq2 := Nat.lt_of_succ_le hq); (try have e0 : w1.cell? ⟨w0.heap.size, 0, none⟩ = some (.int .i64 0) := by (rw [hcc _ _ (by (try simp only [World.size_drew]); (try simp only [World.size_alloc]); omega)]; simp [go_sem])); (try have e1 : w1.cell? ⟨w0.heap.size, 1, none⟩ = some (.int .i64 0) := by (rw [hcc _ _ (by (try simp only [World.size_drew]); (try simp only [World.size_alloc]); omega)]; simp [go_sem]))))
      all_goals go_wp2_with fail
      all_goals go_meet
      all_goals refine ⟨_, rfl, rfl, ?_, ?_, ext_b (by assumption)⟩
      all_goals (first | (simp [go_sem, *]; done) | (refine (pair_set (x := .int .i64 0) (y := .int .i64 0) ?_ ?_ _ _).2.1 <;> (simp [*]; (try simp [go_sem]); done)) | (refine (pair_set (x := .int .i64 0) (y := .int .i64 0) ?_ ?_ _ _).2.2 <;> (simp [*]; (try simp [go_sem]); done)))
    case rest =>
      obtain ⟨g', rfl, rfl, hx', hy', hb2⟩ := hcut
      have hx2 : wc.cell? ⟨g, 0, none⟩ = some (.int .i64 x) := (hb2.cell (World.block_lt_of_cell? w0 ⟨g, 0, none⟩ HX.out)).trans HX.out
      have hy2 : wc.cell? ⟨g, 1, none⟩ = some (.int .i64 y) := (hb2.cell (World.block_lt_of_cell? w0 ⟨g, 1, none⟩ HY.out)).trans HY.out
      have hB2 : Below w.heap.size w wc := hB1.trans (hb2.mono hB1.size)
      clear hb2 hB1 H0
      go_wp2_with fail
      refine (eqFraction_same x y _).mono ?_
      rintro e w3 ⟨rfl, hb3⟩
      go_wp2_with fail
      go_ret
      exact ⟨rfl, hB2.trans (hb3.mono hB2.size)⟩

/-- The floor of a fraction, and a code. -/
def flrR (p q : Int) : Int × Int := if vfB p q = true then (p / q, 0) else (0, 1)
theorem implFloor_any (p q : Int) (w : World) : Calls Try.prog 17 #[.agg #[.int .i64 p, .int .i64 q]] w fun e w' => e = .returned (.tuple #[.int .i64 (flrR p q).1, .int .i64 (flrR p q).2]) ∧ Below w.heap.size w w' := by
  cases h1 : vfB p q
  · rw [show flrR p q = (0, 1) from if_neg (by rw [h1]; decide)]
    go_enter Try.func17, Try.ntmps17
    go_wp2_with fail
    refine (validFraction_any p q _).mono ?_
    rintro e w1 ⟨rfl, hb1⟩
    obtain ⟨hc1, hf1, hs1⟩ := keepc hb1
    have hB1 : Below w.heap.size w w1 := Below.trans (by go_grown) (hb1.mono (by first | exact Nat.le_refl _ | (simp only [World.size_alloc]; omega)))
    try simp only [World.size_alloc] at hs1
    have hl1_0 : w.heap.size < w1.heap.size := by omega
    go_wp2_with fail
    go_ret2
    exact ⟨rfl, hB1⟩
  · rw [show flrR p q = (p / q, 0) from if_pos h1]
    obtain ⟨a1, a2, a3, a4, _⟩ := vfB_iff.1 h1
    go_enter Try.func17, Try.ntmps17
    go_wp2_with fail
    refine (validFraction_any p q _).mono ?_
    rintro e w1 ⟨rfl, hb1⟩
    obtain ⟨hc1, hf1, hs1⟩ := keepc hb1
    have hB1 : Below w.heap.size w w1 := Below.trans (by go_grown) (hb1.mono (by first | exact Nat.le_refl _ | (simp only [World.size_alloc]; omega)))
    try simp only [World.size_alloc] at hs1
    have hl1_0 : w.heap.size < w1.heap.size := by omega
    go_wp2_with fail
    refine (floorDiv_any p q _ (by omega) (by omega) (by omega) (by omega)).mono ?_
    rintro e w2 ⟨rfl, rfl⟩
    go_wp2_with fail
    go_ret2
    exact ⟨rfl, hB1⟩
theorem specFloor_any (p q : Int) (w : World) : Calls Try.prog 15 #[.agg #[.int .i64 p, .int .i64 q]] w fun e w' => e = .returned (.tuple #[.int .i64 (flrR p q).1, .int .i64 (flrR p q).2]) ∧ Below w.heap.size w w' := by
  cases h1 : vfB p q
  · rw [show flrR p q = (0, 1) from if_neg (by rw [h1]; decide)]
    go_enter Try.func15, Try.ntmps15
    go_wp2_with fail
    refine (l02Ok_any p q _).mono ?_
    rintro e w1 ⟨rfl, hb1⟩
    obtain ⟨hc1, hf1, hs1⟩ := keepc hb1
    have hB1 : Below w.heap.size w w1 := Below.trans (by go_grown) (hb1.mono (by first | exact Nat.le_refl _ | (simp only [World.size_alloc]; omega)))
    try simp only [World.size_alloc] at hs1
    have hl1_0 : w.heap.size < w1.heap.size := by omega
    go_wp2_with fail
    go_ret2
    exact ⟨rfl, hB1⟩
  · rw [show flrR p q = (p / q, 0) from if_pos h1]
    obtain ⟨a1, a2, a3, a4, _⟩ := vfB_iff.1 h1
    go_enter Try.func15, Try.ntmps15
    go_wp2_with fail
    refine (l02Ok_any p q _).mono ?_
    rintro e w1 ⟨rfl, hb1⟩
    obtain ⟨hc1, hf1, hs1⟩ := keepc hb1
    have hB1 : Below w.heap.size w w1 := Below.trans (by go_grown) (hb1.mono (by first | exact Nat.le_refl _ | (simp only [World.size_alloc]; omega)))
    try simp only [World.size_alloc] at hs1
    have hl1_0 : w.heap.size < w1.heap.size := by omega
    go_wp2_with fail
    refine (l02Floor_any p q _ (by omega) (by omega) (by omega) (by omega)).mono ?_
    rintro e w2 ⟨rfl, rfl⟩
    go_wp2_with fail
    go_ret2
    exact ⟨rfl, hB1⟩
theorem fnExactFloorOf_walk (p q : Int) (_ : -9223372036854775808 ≤ p) (_ : p ≤ 9223372036854775807) (_ : -9223372036854775808 ≤ q) (_ : q ≤ 9223372036854775807) (w : World) :
    Calls Try.prog 3 #[.agg #[.int .i64 p, .int .i64 q]] w fun e w' => e = .returned (.bool true) ∧ Below w.heap.size w w' := by
  go_enter Try.func3, Try.ntmps3
  go_wp2_with fail
  refine (toFraction_any p q _).mono ?_
  rintro e w1 ⟨rfl, hb1⟩
  obtain ⟨hc1, hf1, hs1⟩ := keepc hb1
  have hB1 : Below w.heap.size w w1 := Below.trans (by go_grown) (hb1.mono (by first | exact Nat.le_refl _ | (simp only [World.size_alloc]; omega)))
  try simp only [World.size_alloc] at hs1
  have hl1_0 : w.heap.size < w1.heap.size := by omega
  go_wp2_with fail
  refine (specFloor_any p q _).mono ?_
  rintro e w2 ⟨rfl, hb2⟩
  obtain ⟨hc2, hf2, hs2⟩ := keepc hb2
  have hB2 : Below w.heap.size w w2 := hB1.trans (hb2.mono (by have := hB1.size; omega))
  have hl2_0 : w.heap.size < w2.heap.size := by omega
  go_wp2_with fail
  refine (toFraction_any p q _).mono ?_
  rintro e w3 ⟨rfl, hb3⟩
  obtain ⟨hc3, hf3, hs3⟩ := keepc hb3
  have hB3 : Below w.heap.size w w3 := hB2.trans (hb3.mono (by have := hB2.size; omega))
  have hl3_0 : w.heap.size < w3.heap.size := by omega
  go_wp2_with fail
  refine (implFloor_any p q _).mono ?_
  rintro e w4 ⟨rfl, hb4⟩
  obtain ⟨hc4, hf4, hs4⟩ := keepc hb4
  have hB4 : Below w.heap.size w w4 := hB3.trans (hb4.mono (by have := hB3.size; omega))
  have hl4_0 : w.heap.size < w4.heap.size := by omega
  go_wp2_with fail
  go_ret
  exact ⟨rfl, hB4⟩
/-- How two fractions compare, and a code. -/
def cmpR (p q r s : Int) : Int × Int := if vfB p q = true ∧ vfB r s = true then (cmpI (p * s) (r * q), 0) else (0, 1)
theorem compareF_any (p q r s : Int) (w : World) (h1 : vfB p q = true) (h2 : vfB r s = true) : Calls Try.prog 68 #[.agg #[.int .i64 p, .int .i64 q], .agg #[.int .i64 r, .int .i64 s]] w fun e w' => e = .returned (.int .i64 (cmpI (p * s) (r * q))) ∧ Below w.heap.size w w' := by
  obtain ⟨a1, a2, a3, a4, _⟩ := vfB_iff.1 h1
  obtain ⟨b1, b2, b3, b4, _⟩ := vfB_iff.1 h2
  obtain ⟨m1, m2⟩ := mul_bd a3 a4 (by omega) b2 (y := s)
  obtain ⟨m3, m4⟩ := mul_bd b3 b4 (by omega) a2 (y := q)
  go_enter Try.func68, Try.ntmps68
  go_wp2_with fail
  refine (compare_any _ _ _).mono ?_
  rintro e w1 ⟨rfl, rfl⟩
  go_wp2_with fail
  go_ret
  exact ⟨rfl, by go_grown⟩
theorem implCmp_any (p q r s : Int) (w : World) : Calls Try.prog 33 #[.agg #[.int .i64 p, .int .i64 q], .agg #[.int .i64 r, .int .i64 s]] w fun e w' => e = .returned (.tuple #[.int .i64 (cmpR p q r s).1, .int .i64 (cmpR p q r s).2]) ∧ Below w.heap.size w w' := by
  cases h1 : vfB p q
  · rw [show cmpR p q r s = (0, 1) from if_neg (fun h => by rw [h1] at h; cases h.1)]
    go_enter Try.func33, Try.ntmps33
    go_wp2_with fail
    refine (validFraction_any p q _).mono ?_
    rintro e w1 ⟨rfl, hb1⟩
    obtain ⟨hc1, hf1, hs1⟩ := keepc hb1
    have hB1 : Below w.heap.size w w1 := Below.trans (by go_grown) (hb1.mono (by first | exact Nat.le_refl _ | (simp only [World.size_alloc]; omega)))
    try simp only [World.size_alloc] at hs1
    have hl1_0 : w.heap.size < w1.heap.size := by omega
    have hl1_1 : w.heap.size + 1 < w1.heap.size := by omega
    go_wp2_with fail
    go_ret2
    exact ⟨rfl, hB1⟩
  · cases h2 : vfB r s
    · rw [show cmpR p q r s = (0, 1) from if_neg (fun h => by rw [h2] at h; cases h.2)]
      go_enter Try.func33, Try.ntmps33
      go_wp2_with fail
      refine (validFraction_any p q _).mono ?_
      rintro e w1 ⟨rfl, hb1⟩
      obtain ⟨hc1, hf1, hs1⟩ := keepc hb1
      have hB1 : Below w.heap.size w w1 := Below.trans (by go_grown) (hb1.mono (by first | exact Nat.le_refl _ | (simp only [World.size_alloc]; omega)))
      try simp only [World.size_alloc] at hs1
      have hl1_0 : w.heap.size < w1.heap.size := by omega
      have hl1_1 : w.heap.size + 1 < w1.heap.size := by omega
      go_wp2_with fail
      refine (validFraction_any r s _).mono ?_
      rintro e w2 ⟨rfl, hb2⟩
      obtain ⟨hc2, hf2, hs2⟩ := keepc hb2
      have hB2 : Below w.heap.size w w2 := hB1.trans (hb2.mono (by have := hB1.size; omega))
      have hl2_0 : w.heap.size < w2.heap.size := by omega
      have hl2_1 : w.heap.size + 1 < w2.heap.size := by omega
      go_wp2_with fail
      go_ret2
      exact ⟨rfl, hB2⟩
    · rw [show cmpR p q r s = (cmpI (p * s) (r * q), 0) from if_pos ⟨h1, h2⟩]
      go_enter Try.func33, Try.ntmps33
      go_wp2_with fail
      refine (validFraction_any p q _).mono ?_
      rintro e w1 ⟨rfl, hb1⟩
      obtain ⟨hc1, hf1, hs1⟩ := keepc hb1
      have hB1 : Below w.heap.size w w1 := Below.trans (by go_grown) (hb1.mono (by first | exact Nat.le_refl _ | (simp only [World.size_alloc]; omega)))
      try simp only [World.size_alloc] at hs1
      have hl1_0 : w.heap.size < w1.heap.size := by omega
      have hl1_1 : w.heap.size + 1 < w1.heap.size := by omega
      go_wp2_with fail
      refine (validFraction_any r s _).mono ?_
      rintro e w2 ⟨rfl, hb2⟩
      obtain ⟨hc2, hf2, hs2⟩ := keepc hb2
      have hB2 : Below w.heap.size w w2 := hB1.trans (hb2.mono (by have := hB1.size; omega))
      have hl2_0 : w.heap.size < w2.heap.size := by omega
      have hl2_1 : w.heap.size + 1 < w2.heap.size := by omega
      go_wp2_with fail
      refine (compareF_any p q r s _ h1 h2).mono ?_
      rintro e w3 ⟨rfl, hb3⟩
      obtain ⟨hc3, hf3, hs3⟩ := keepc hb3
      have hB3 : Below w.heap.size w w3 := hB2.trans (hb3.mono (by have := hB2.size; omega))
      have hl3_0 : w.heap.size < w3.heap.size := by omega
      have hl3_1 : w.heap.size + 1 < w3.heap.size := by omega
      go_wp2_with fail
      go_ret2
      exact ⟨rfl, hB3⟩
theorem l02Sign_any (p q r s : Int) (w : World) (h1 : vfB p q = true) (h2 : vfB r s = true) : Calls Try.prog 67 #[.agg #[.int .i64 p, .int .i64 q], .agg #[.int .i64 r, .int .i64 s]] w fun e w' => e = .returned (.int .i64 (cmpI (p * s) (r * q))) ∧ Below w.heap.size w w' := by
  obtain ⟨a1, a2, a3, a4, _⟩ := vfB_iff.1 h1
  obtain ⟨b1, b2, b3, b4, _⟩ := vfB_iff.1 h2
  obtain ⟨m1, m2⟩ := mul_bd a3 a4 (by omega) b2 (y := s)
  obtain ⟨m3, m4⟩ := mul_bd b3 b4 (by omega) a2 (y := q)
  rcases (by omega : p * s < r * q ∨ r * q < p * s ∨ p * s = r * q) with h | h | h
  · rw [show cmpI (p * s) (r * q) = -1 from if_pos h]
    go_enter Try.func67, Try.ntmps67
    go_wp2_with fail
    go_ret
    exact ⟨rfl, by go_grown⟩
  · rw [show cmpI (p * s) (r * q) = 1 from by unfold cmpI; rw [if_neg (by omega), if_pos h]]
    have h' : ¬ p * s < r * q := by omega
    go_enter Try.func67, Try.ntmps67
    go_wp2_with fail
    go_ret
    exact ⟨rfl, by go_grown⟩
  · rw [show cmpI (p * s) (r * q) = 0 from by unfold cmpI; rw [if_neg (by omega), if_neg (by omega)]]
    have h' : ¬ p * s < r * q := by omega
    have h'' : ¬ r * q < p * s := by omega
    clear h
    go_enter Try.func67, Try.ntmps67
    go_wp2_with fail
    go_ret
    exact ⟨rfl, by go_grown⟩
theorem specCmp_any (p q r s : Int) (w : World) : Calls Try.prog 32 #[.agg #[.int .i64 p, .int .i64 q], .agg #[.int .i64 r, .int .i64 s]] w fun e w' => e = .returned (.tuple #[.int .i64 (cmpR p q r s).1, .int .i64 (cmpR p q r s).2]) ∧ Below w.heap.size w w' := by
  by_cases hh : vfB p q = true ∧ vfB r s = true
  · obtain ⟨h1, h2⟩ := hh
    rw [show cmpR p q r s = (cmpI (p * s) (r * q), 0) from if_pos ⟨h1, h2⟩]
    have ht : twoC p q r s = 0 := if_pos ⟨h1, h2⟩
    go_enter Try.func32, Try.ntmps32
    go_wp2_with fail
    refine (l02Two_any p q r s _).mono ?_
    rintro e w1 ⟨rfl, hb1⟩
    obtain ⟨hc1, hf1, hs1⟩ := keepc hb1
    have hB1 : Below w.heap.size w w1 := Below.trans (by go_grown) (hb1.mono (by first | exact Nat.le_refl _ | (simp only [World.size_alloc]; omega)))
    try simp only [World.size_alloc] at hs1
    have hl1_0 : w.heap.size < w1.heap.size := by omega
    have hl1_1 : w.heap.size + 1 < w1.heap.size := by omega
    go_wp2_with fail
    refine (l02Sign_any p q r s _ h1 h2).mono ?_
    rintro e w2 ⟨rfl, hb2⟩
    obtain ⟨hc2, hf2, hs2⟩ := keepc hb2
    have hB2 : Below w.heap.size w w2 := hB1.trans (hb2.mono (by have := hB1.size; omega))
    have hl2_0 : w.heap.size < w2.heap.size := by omega
    have hl2_1 : w.heap.size + 1 < w2.heap.size := by omega
    go_wp2_with fail
    go_ret2
    exact ⟨rfl, hB2⟩
  · rw [show cmpR p q r s = (0, 1) from if_neg hh]
    have ht : twoC p q r s = 1 := if_neg hh
    clear hh
    go_enter Try.func32, Try.ntmps32
    go_wp2_with fail
    refine (l02Two_any p q r s _).mono ?_
    rintro e w1 ⟨rfl, hb1⟩
    obtain ⟨hc1, hf1, hs1⟩ := keepc hb1
    have hB1 : Below w.heap.size w w1 := Below.trans (by go_grown) (hb1.mono (by first | exact Nat.le_refl _ | (simp only [World.size_alloc]; omega)))
    try simp only [World.size_alloc] at hs1
    have hl1_0 : w.heap.size < w1.heap.size := by omega
    have hl1_1 : w.heap.size + 1 < w1.heap.size := by omega
    go_wp2_with fail
    go_ret2
    exact ⟨rfl, hB1⟩
set_option maxHeartbeats 1600000 in
theorem fnExactCompareFractions_walk (p q : Int) (_ : -9223372036854775808 ≤ p) (_ : p ≤ 9223372036854775807) (_ : -9223372036854775808 ≤ q) (_ : q ≤ 9223372036854775807)
    (r s : Int) (_ : -9223372036854775808 ≤ r) (_ : r ≤ 9223372036854775807) (_ : -9223372036854775808 ≤ s) (_ : s ≤ 9223372036854775807) (w : World) :
    Calls Try.prog 7 #[.agg #[.int .i64 p, .int .i64 q], .agg #[.int .i64 r, .int .i64 s]] w fun e w' => e = .returned (.bool true) ∧ Below w.heap.size w w' := by
  go_enter Try.func7, Try.ntmps7
  go_wp2_with fail
  go_region_held3 (fun w' => w'.cell? ⟨w.heap.size, 0, none⟩ = some (.int .i64 p) ∧ w'.cell? ⟨w.heap.size, 1, none⟩ = some (.int .i64 q) ∧ w'.cell? ⟨w.heap.size + 1, 0, none⟩ = some (.int .i64 r) ∧ w'.cell? ⟨w.heap.size + 1, 1, none⟩ = some (.int .i64 s) ∧ Below w.heap.size w w' ∧ w.heap.size + 1 < w'.heap.size)
    (first | exact two_keep' (by assumption) hb | exact two_drew (by assumption) | exact two_keep' (two_drew (two_start w p q r s _ _)) hb | exact two_drew (two_start w p q r s _ _))
    (first | (go_at_call 16; refine (toFraction_any _ _ _).mono ?_; rintro e w1 ⟨rfl, hb⟩) | (go_at_call 32; refine (specCmp_any p q r s _).mono ?_; rintro e w1 ⟨rfl, hb⟩))
  go_wp2
  go_region_held3 (fun w' => w'.cell? ⟨w.heap.size, 0, none⟩ = some (.int .i64 p) ∧ w'.cell? ⟨w.heap.size, 1, none⟩ = some (.int .i64 q) ∧ w'.cell? ⟨w.heap.size + 1, 0, none⟩ = some (.int .i64 r) ∧ w'.cell? ⟨w.heap.size + 1, 1, none⟩ = some (.int .i64 s) ∧ Below w.heap.size w w' ∧ w.heap.size + 1 < w'.heap.size)
    (first | exact two_keep' (by assumption) hb | exact two_drew (by assumption) | exact two_keep' (two_drew (two_start w p q r s _ _)) hb | exact two_drew (two_start w p q r s _ _))
    (first | (go_at_call 16; refine (toFraction_any _ _ _).mono ?_; rintro e w1 ⟨rfl, hb⟩) | (go_at_call 33; refine (implCmp_any p q r s _).mono ?_; rintro e w1 ⟨rfl, hb⟩))
  go_wp2
  go_ret
  exact ⟨rfl, two_below (by assumption)⟩
end Go.Proofs.Ytikdahbjfehhdaa
