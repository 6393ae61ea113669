/-
  Contracts of the quotient, of fractions made, compared and rounded down; the walks of their laws.
  No condition but those of the laws' own texts.
-/
import Derived.Test.YtnikogholldcmaaDoorProg
import Derived.Test.YtnikogholldcmaaDoorMem
import Derived.Test.YtnikogholldcmaaDoorBasic
import Derived.Test.YtnikogholldcmaaDoorFrac
import Derived.Test.YtnikogholldcmaaDoorVfrac
import Derived.Test.YtnikogholldcmaaDoorFrac2
import Derived.Test.YtnikogholldcmaaDoorFrac3
import Derived.Test.YtnikogholldcmaaDoorLaw2
import Derived.Handy
import Derived.BigQuiet
import Derived.Deep.QuietTactic
import Derived.Deep.RegionHeld3
import Derived.Deep.DrawnRows
import Derived.Deep.DeepCutAuto
namespace Go.Proofs.YtnikogholldcmaaDoor
open Go.RowKit
set_option linter.unusedVariables false
attribute [local go_sem ↓] Go.wp_at_zero Go.wp_at_succ


/-- What a division hands back. -/
def divR (p q r s : Int) : Int × Int × Int := if vfB p q = true ∧ vfB r s = true then (if r = 0 then (0, 0, 6) else plR (p*s) (q*r)) else (0, 0, 1)
theorem divR_t {p q r s : Int} (h1 : vfB p q = true) (h2 : vfB r s = true) (h : r ≠ 0) : divR p q r s = plR (p*s) (q*r) := by unfold divR; rw [if_pos ⟨h1, h2⟩, if_neg h]
theorem divR_z {p q r s : Int} (h1 : vfB p q = true) (h2 : vfB r s = true) (h : r = 0) : divR p q r s = (0, 0, 6) := by unfold divR; rw [if_pos ⟨h1, h2⟩, if_pos h]
theorem divR_n {p q r s : Int} (h : ¬ (vfB p q = true ∧ vfB r s = true)) : divR p q r s = (0, 0, 1) := if_neg h
set_option maxHeartbeats 1600000 in
theorem implDiv_any (p q r s : Int) (w : World) : Calls Tryd.prog 50 #[.agg #[.int .i64 p, .int .i64 q], .agg #[.int .i64 r, .int .i64 s]] w fun e w' =>
    e = .returned (.tuple #[.agg #[.int .i64 (divR p q r s).1, .int .i64 (divR p q r s).2.1], .int .i64 (divR p q r s).2.2]) ∧ Below w.heap.size w w' := by
  cases h1 : vfB p q
  · rw [divR_n (fun h => by rw [h1] at h; cases h.1)]
    go_enter Tryd.func50, Tryd.ntmps50
    go_wp2_with fail
    refine (validFraction_any p q _).mono ?_
    rintro e w1 ⟨rfl, hb1⟩
    obtain ⟨hc1, hf1, hs1⟩ := keepc hb1
    have hB1 : Below w.heap.size w w1 := Below.trans (by go_grown) (hb1.mono (by first | exact Nat.le_refl _ | (simp only [World.size_alloc]; omega)))
    try simp only [World.size_alloc] at hs1
    have hl1_0 : w.heap.size < w1.heap.size := by omega
    have hl1_1 : w.heap.size + 1 < w1.heap.size := by omega
    have hl1_2 : w.heap.size + 2 < w1.heap.size := by omega
    have z0 : w1.cell? ⟨w.heap.size + 2, 0, none⟩ = some (.int .i64 0) := by rw [hc1 _ _ (by simp only [World.size_alloc]; omega)]; simp [go_sem]
    have z1 : w1.cell? ⟨w.heap.size + 2, 1, none⟩ = some (.int .i64 0) := by rw [hc1 _ _ (by simp only [World.size_alloc]; omega)]; simp [go_sem]
    go_wp2_with fail
    exact bodyPost_ret (v := .tuple #[.agg #[.int .i64 0, .int .i64 0], .int .i64 1]) (by simp [results, Tryd.results50, go_sem, pair_set z0 z1]) rfl ⟨rfl, (hB1.setCell (p := ⟨w.heap.size + 2, 0, none⟩) (by simp) _).setCell (p := ⟨w.heap.size + 2, 1, none⟩) (by simp) _⟩
  · cases h2 : vfB r s
    · rw [divR_n (fun h => by rw [h2] at h; cases h.2)]
      go_enter Tryd.func50, Tryd.ntmps50
      go_wp2_with fail
      refine (validFraction_any p q _).mono ?_
      rintro e w1 ⟨rfl, hb1⟩
      obtain ⟨hc1, hf1, hs1⟩ := keepc hb1
      have hB1 : Below w.heap.size w w1 := Below.trans (by go_grown) (hb1.mono (by first | exact Nat.le_refl _ | (simp only [World.size_alloc]; omega)))
      try simp only [World.size_alloc] at hs1
      have hl1_0 : w.heap.size < w1.heap.size := by omega
      have hl1_1 : w.heap.size + 1 < w1.heap.size := by omega
      have hl1_2 : w.heap.size + 2 < w1.heap.size := by omega
      go_wp2_with fail
      refine (validFraction_any r s _).mono ?_
      rintro e w2 ⟨rfl, hb2⟩
      obtain ⟨hc2, hf2, hs2⟩ := keepc hb2
      have hB2 : Below w.heap.size w w2 := hB1.trans (hb2.mono (by have := hB1.size; omega))
      have hl2_0 : w.heap.size < w2.heap.size := by omega
      have hl2_1 : w.heap.size + 1 < w2.heap.size := by omega
      have hl2_2 : w.heap.size + 2 < w2.heap.size := by omega
      have z0 : w2.cell? ⟨w.heap.size + 2, 0, none⟩ = some (.int .i64 0) := by rw [hc2 _ _ (by omega), hc1 _ _ (by simp only [World.size_alloc]; omega)]; simp [go_sem]
      have z1 : w2.cell? ⟨w.heap.size + 2, 1, none⟩ = some (.int .i64 0) := by rw [hc2 _ _ (by omega), hc1 _ _ (by simp only [World.size_alloc]; omega)]; simp [go_sem]
      go_wp2_with fail
      exact bodyPost_ret (v := .tuple #[.agg #[.int .i64 0, .int .i64 0], .int .i64 1]) (by simp [results, Tryd.results50, go_sem, pair_set z0 z1]) rfl ⟨rfl, (hB2.setCell (p := ⟨w.heap.size + 2, 0, none⟩) (by simp) _).setCell (p := ⟨w.heap.size + 2, 1, none⟩) (by simp) _⟩
    · obtain ⟨a1, a2, a3, a4, _⟩ := vfB_iff.1 h1
      obtain ⟨b1, b2, b3, b4, _⟩ := vfB_iff.1 h2
      by_cases hr : r = 0
      · rw [divR_z h1 h2 hr]
        have hr' : (r == 0) = true := by rw [hr]; rfl
        have hr1 : r ≤ 0 := by omega
        have hr2 : 0 ≤ r := by omega
        clear hr
        go_enter Tryd.func50, Tryd.ntmps50
        go_wp2_with fail
        refine (validFraction_any p q _).mono ?_
        rintro e w1 ⟨rfl, hb1⟩
        obtain ⟨hc1, hf1, hs1⟩ := keepc hb1
        have hB1 : Below w.heap.size w w1 := Below.trans (by go_grown) (hb1.mono (by first | exact Nat.le_refl _ | (simp only [World.size_alloc]; omega)))
        try simp only [World.size_alloc] at hs1
        have hl1_0 : w.heap.size < w1.heap.size := by omega
        have hl1_1 : w.heap.size + 1 < w1.heap.size := by omega
        have hl1_2 : w.heap.size + 2 < w1.heap.size := by omega
        go_wp2_with fail
        refine (validFraction_any r s _).mono ?_
        rintro e w2 ⟨rfl, hb2⟩
        obtain ⟨hc2, hf2, hs2⟩ := keepc hb2
        have hB2 : Below w.heap.size w w2 := hB1.trans (hb2.mono (by have := hB1.size; omega))
        have hl2_0 : w.heap.size < w2.heap.size := by omega
        have hl2_1 : w.heap.size + 1 < w2.heap.size := by omega
        have hl2_2 : w.heap.size + 2 < w2.heap.size := by omega
        have z0 : w2.cell? ⟨w.heap.size + 2, 0, none⟩ = some (.int .i64 0) := by rw [hc2 _ _ (by omega), hc1 _ _ (by simp only [World.size_alloc]; omega)]; simp [go_sem]
        have z1 : w2.cell? ⟨w.heap.size + 2, 1, none⟩ = some (.int .i64 0) := by rw [hc2 _ _ (by omega), hc1 _ _ (by simp only [World.size_alloc]; omega)]; simp [go_sem]
        go_wp2_with fail
        exact bodyPost_ret (v := .tuple #[.agg #[.int .i64 0, .int .i64 0], .int .i64 6]) (by simp [results, Tryd.results50, go_sem, pair_set z0 z1]) rfl ⟨rfl, (hB2.setCell (p := ⟨w.heap.size + 2, 0, none⟩) (by simp) _).setCell (p := ⟨w.heap.size + 2, 1, none⟩) (by simp) _⟩
      · rw [divR_t h1 h2 hr]
        have hr' : (r == 0) = false := by rw [beq_eq_false_iff_ne]; exact hr
        obtain ⟨m1, m2⟩ := mul_bd a3 a4 (by omega) b2 (y := s)
        obtain ⟨m3, m4⟩ := mul_bd (x := q) (by omega) a2 b3 b4
        have m9 : q * r < 0 ∨ 0 < q * r := by
          rcases (by omega : r < 0 ∨ 0 < r) with h | h
          · exact .inl (Int.mul_neg_of_pos_of_neg (by omega) h)
          · exact .inr (Int.mul_pos (by omega) h)
        have M9 := Lib.hid m9
        clear hr m9
        go_enter Tryd.func50, Tryd.ntmps50
        go_wp2_with fail
        refine (validFraction_any p q _).mono ?_
        rintro e w1 ⟨rfl, hb1⟩
        obtain ⟨hc1, hf1, hs1⟩ := keepc hb1
        have hB1 : Below w.heap.size w w1 := Below.trans (by go_grown) (hb1.mono (by first | exact Nat.le_refl _ | (simp only [World.size_alloc]; omega)))
        try simp only [World.size_alloc] at hs1
        have hl1_0 : w.heap.size < w1.heap.size := by omega
        have hl1_1 : w.heap.size + 1 < w1.heap.size := by omega
        have hl1_2 : w.heap.size + 2 < w1.heap.size := by omega
        go_wp2_with fail
        refine (validFraction_any r s _).mono ?_
        rintro e w2 ⟨rfl, hb2⟩
        obtain ⟨hc2, hf2, hs2⟩ := keepc hb2
        have hB2 : Below w.heap.size w w2 := hB1.trans (hb2.mono (by have := hB1.size; omega))
        have hl2_0 : w.heap.size < w2.heap.size := by omega
        have hl2_1 : w.heap.size + 1 < w2.heap.size := by omega
        have hl2_2 : w.heap.size + 2 < w2.heap.size := by omega
        go_wp2_with fail
        refine (plainOf_any (p*s) (q*r) _ (by omega) (by omega) (by omega) (by omega) M9.out).mono ?_
        rintro e w3 ⟨rfl, hb3⟩
        obtain ⟨hc3, hf3, hs3⟩ := keepc hb3
        have hB3 : Below w.heap.size w w3 := hB2.trans (hb3.mono (by have := hB2.size; omega))
        have hl3_0 : w.heap.size < w3.heap.size := by omega
        have hl3_1 : w.heap.size + 1 < w3.heap.size := by omega
        have hl3_2 : w.heap.size + 2 < w3.heap.size := by omega
        have z0 : w3.cell? ⟨w.heap.size + 2, 0, none⟩ = some (.int .i64 0) := by rw [hc3 _ _ (by omega), hc2 _ _ (by omega), hc1 _ _ (by simp only [World.size_alloc]; omega)]; simp [go_sem]
        have z1 : w3.cell? ⟨w.heap.size + 2, 1, none⟩ = some (.int .i64 0) := by rw [hc3 _ _ (by omega), hc2 _ _ (by omega), hc1 _ _ (by simp only [World.size_alloc]; omega)]; simp [go_sem]
        go_wp2_with fail
        exact bodyPost_ret (v := .tuple #[.agg #[.int .i64 (plR (p*s) (q*r)).1, .int .i64 (plR (p*s) (q*r)).2.1], .int .i64 (plR (p*s) (q*r)).2.2]) (by simp [results, Tryd.results50, go_sem, pair_set z0 z1]) rfl ⟨rfl, (hB3.setCell (p := ⟨w.heap.size + 2, 0, none⟩) (by simp) _).setCell (p := ⟨w.heap.size + 2, 1, none⟩) (by simp) _⟩

/-- How two fractions compare, and a code. -/
def cmpR (p q r s : Int) : Int × Int := if vfB p q = true ∧ vfB r s = true then (cmpI (p * s) (r * q), 0) else (0, 1)
theorem compareF_any (p q r s : Int) (w : World) (h1 : vfB p q = true) (h2 : vfB r s = true) : Calls Tryd.prog 83 #[.agg #[.int .i64 p, .int .i64 q], .agg #[.int .i64 r, .int .i64 s]] w fun e w' => e = .returned (.int .i64 (cmpI (p * s) (r * q))) ∧ Below w.heap.size w w' := by
  obtain ⟨a1, a2, a3, a4, _⟩ := vfB_iff.1 h1
  obtain ⟨b1, b2, b3, b4, _⟩ := vfB_iff.1 h2
  obtain ⟨m1, m2⟩ := mul_bd a3 a4 (by omega) b2 (y := s)
  obtain ⟨m3, m4⟩ := mul_bd b3 b4 (by omega) a2 (y := q)
  go_enter Tryd.func83, Tryd.ntmps83
  go_wp2_with fail
  refine (compare_any _ _ _).mono ?_
  rintro e w1 ⟨rfl, rfl⟩
  go_wp2_with fail
  go_ret
  exact ⟨rfl, by go_grown⟩
theorem implCmp_any (p q r s : Int) (w : World) : Calls Tryd.prog 47 #[.agg #[.int .i64 p, .int .i64 q], .agg #[.int .i64 r, .int .i64 s]] w fun e w' => e = .returned (.tuple #[.int .i64 (cmpR p q r s).1, .int .i64 (cmpR p q r s).2]) ∧ Below w.heap.size w w' := by
  cases h1 : vfB p q
  · rw [show cmpR p q r s = (0, 1) from if_neg (fun h => by rw [h1] at h; cases h.1)]
    go_enter Tryd.func47, Tryd.ntmps47
    go_wp2_with fail
    refine (validFraction_any p q _).mono ?_
    rintro e w1 ⟨rfl, hb1⟩
    obtain ⟨hc1, hf1, hs1⟩ := keepc hb1
    have hB1 : Below w.heap.size w w1 := Below.trans (by go_grown) (hb1.mono (by first | exact Nat.le_refl _ | (simp only [World.size_alloc]; omega)))
    try simp only [World.size_alloc] at hs1
    have hl1_0 : w.heap.size < w1.heap.size := by omega
    have hl1_1 : w.heap.size + 1 < w1.heap.size := by omega
    go_wp2_with fail
    go_ret2
    exact ⟨rfl, hB1⟩
  · cases h2 : vfB r s
    · rw [show cmpR p q r s = (0, 1) from if_neg (fun h => by rw [h2] at h; cases h.2)]
      go_enter Tryd.func47, Tryd.ntmps47
      go_wp2_with fail
      refine (validFraction_any p q _).mono ?_
      rintro e w1 ⟨rfl, hb1⟩
      obtain ⟨hc1, hf1, hs1⟩ := keepc hb1
      have hB1 : Below w.heap.size w w1 := Below.trans (by go_grown) (hb1.mono (by first | exact Nat.le_refl _ | (simp only [World.size_alloc]; omega)))
      try simp only [World.size_alloc] at hs1
      have hl1_0 : w.heap.size < w1.heap.size := by omega
      have hl1_1 : w.heap.size + 1 < w1.heap.size := by omega
      go_wp2_with fail
      refine (validFraction_any r s _).mono ?_
      rintro e w2 ⟨rfl, hb2⟩
      obtain ⟨hc2, hf2, hs2⟩ := keepc hb2
      have hB2 : Below w.heap.size w w2 := hB1.trans (hb2.mono (by have := hB1.size; omega))
      have hl2_0 : w.heap.size < w2.heap.size := by omega
      have hl2_1 : w.heap.size + 1 < w2.heap.size := by omega
      go_wp2_with fail
      go_ret2
      exact ⟨rfl, hB2⟩
    · rw [show cmpR p q r s = (cmpI (p * s) (r * q), 0) from if_pos ⟨h1, h2⟩]
      go_enter Tryd.func47, Tryd.ntmps47
      go_wp2_with fail
      refine (validFraction_any p q _).mono ?_
      rintro e w1 ⟨rfl, hb1⟩
      obtain ⟨hc1, hf1, hs1⟩ := keepc hb1
      have hB1 : Below w.heap.size w w1 := Below.trans (by go_grown) (hb1.mono (by first | exact Nat.le_refl _ | (simp only [World.size_alloc]; omega)))
      try simp only [World.size_alloc] at hs1
      have hl1_0 : w.heap.size < w1.heap.size := by omega
      have hl1_1 : w.heap.size + 1 < w1.heap.size := by omega
      go_wp2_with fail
      refine (validFraction_any r s _).mono ?_
      rintro e w2 ⟨rfl, hb2⟩
      obtain ⟨hc2, hf2, hs2⟩ := keepc hb2
      have hB2 : Below w.heap.size w w2 := hB1.trans (hb2.mono (by have := hB1.size; omega))
      have hl2_0 : w.heap.size < w2.heap.size := by omega
      have hl2_1 : w.heap.size + 1 < w2.heap.size := by omega
      go_wp2_with fail
      refine (compareF_any p q r s _ h1 h2).mono ?_
      rintro e w3 ⟨rfl, hb3⟩
      obtain ⟨hc3, hf3, hs3⟩ := keepc hb3
      have hB3 : Below w.heap.size w w3 := hB2.trans (hb3.mono (by have := hB2.size; omega))
      have hl3_0 : w.heap.size < w3.heap.size := by omega
      have hl3_1 : w.heap.size + 1 < w3.heap.size := by omega
      go_wp2_with fail
      go_ret2
      exact ⟨rfl, hB3⟩
theorem l02Sign_any (p q r s : Int) (w : World) (h1 : vfB p q = true) (h2 : vfB r s = true) : Calls Tryd.prog 85 #[.agg #[.int .i64 p, .int .i64 q], .agg #[.int .i64 r, .int .i64 s]] w fun e w' => e = .returned (.int .i64 (cmpI (p * s) (r * q))) ∧ Below w.heap.size w w' := by
  obtain ⟨a1, a2, a3, a4, _⟩ := vfB_iff.1 h1
  obtain ⟨b1, b2, b3, b4, _⟩ := vfB_iff.1 h2
  obtain ⟨m1, m2⟩ := mul_bd a3 a4 (by omega) b2 (y := s)
  obtain ⟨m3, m4⟩ := mul_bd b3 b4 (by omega) a2 (y := q)
  rcases (by omega : p * s < r * q ∨ r * q < p * s ∨ p * s = r * q) with h | h | h
  · rw [show cmpI (p * s) (r * q) = -1 from if_pos h]
    go_enter Tryd.func85, Tryd.ntmps85
    go_wp2_with fail
    go_ret
    exact ⟨rfl, by go_grown⟩
  · rw [show cmpI (p * s) (r * q) = 1 from by unfold cmpI; rw [if_neg (by omega), if_pos h]]
    have h' : ¬ p * s < r * q := by omega
    go_enter Tryd.func85, Tryd.ntmps85
    go_wp2_with fail
    go_ret
    exact ⟨rfl, by go_grown⟩
  · rw [show cmpI (p * s) (r * q) = 0 from by unfold cmpI; rw [if_neg (by omega), if_neg (by omega)]]
    have h' : ¬ p * s < r * q := by omega
    have h'' : ¬ r * q < p * s := by omega
    clear h
    go_enter Tryd.func85, Tryd.ntmps85
    go_wp2_with fail
    go_ret
    exact ⟨rfl, by go_grown⟩
theorem specCmp_any (p q r s : Int) (w : World) : Calls Tryd.prog 49 #[.agg #[.int .i64 p, .int .i64 q], .agg #[.int .i64 r, .int .i64 s]] w fun e w' => e = .returned (.tuple #[.int .i64 (cmpR p q r s).1, .int .i64 (cmpR p q r s).2]) ∧ Below w.heap.size w w' := by
  by_cases hh : vfB p q = true ∧ vfB r s = true
  · obtain ⟨h1, h2⟩ := hh
    rw [show cmpR p q r s = (cmpI (p * s) (r * q), 0) from if_pos ⟨h1, h2⟩]
    have ht : twoC p q r s = 0 := if_pos ⟨h1, h2⟩
    go_enter Tryd.func49, Tryd.ntmps49
    go_wp2_with fail
    refine (l02Two_any p q r s _).mono ?_
    rintro e w1 ⟨rfl, hb1⟩
    obtain ⟨hc1, hf1, hs1⟩ := keepc hb1
    have hB1 : Below w.heap.size w w1 := Below.trans (by go_grown) (hb1.mono (by first | exact Nat.le_refl _ | (simp only [World.size_alloc]; omega)))
    try simp only [World.size_alloc] at hs1
    have hl1_0 : w.heap.size < w1.heap.size := by omega
    have hl1_1 : w.heap.size + 1 < w1.heap.size := by omega
    go_wp2_with fail
    refine (l02Sign_any p q r s _ h1 h2).mono ?_
    rintro e w2 ⟨rfl, hb2⟩
    obtain ⟨hc2, hf2, hs2⟩ := keepc hb2
    have hB2 : Below w.heap.size w w2 := hB1.trans (hb2.mono (by have := hB1.size; omega))
    have hl2_0 : w.heap.size < w2.heap.size := by omega
    have hl2_1 : w.heap.size + 1 < w2.heap.size := by omega
    go_wp2_with fail
    go_ret2
    exact ⟨rfl, hB2⟩
  · rw [show cmpR p q r s = (0, 1) from if_neg hh]
    have ht : twoC p q r s = 1 := if_neg hh
    clear hh
    go_enter Tryd.func49, Tryd.ntmps49
    go_wp2_with fail
    refine (l02Two_any p q r s _).mono ?_
    rintro e w1 ⟨rfl, hb1⟩
    obtain ⟨hc1, hf1, hs1⟩ := keepc hb1
    have hB1 : Below w.heap.size w w1 := Below.trans (by go_grown) (hb1.mono (by first | exact Nat.le_refl _ | (simp only [World.size_alloc]; omega)))
    try simp only [World.size_alloc] at hs1
    have hl1_0 : w.heap.size < w1.heap.size := by omega
    have hl1_1 : w.heap.size + 1 < w1.heap.size := by omega
    go_wp2_with fail
    go_ret2
    exact ⟨rfl, hB1⟩
end Go.Proofs.YtnikogholldcmaaDoor
