/-
  Contracts of the exported functions on fractions, and the walks of their laws.
  No condition but those of the laws' own texts.
-/
import Derived.Test.YtnikogholldcmaaDoorProg
import Derived.Test.YtnikogholldcmaaDoorMem
import Derived.Test.YtnikogholldcmaaDoorBasic
import Derived.Test.YtnikogholldcmaaDoorFrac
import Derived.Test.YtnikogholldcmaaDoorVfrac
import Derived.Test.YtnikogholldcmaaDoorFrac2
import Derived.Handy
import Derived.RegionTactic
import Derived.BigRegion
import Derived.BigQuiet
import Derived.Deep.QuietTactic
import Derived.Deep.RegionHeld3
import Derived.Deep.DrawnRows
import Derived.Deep.DeepCutAuto
namespace Go.Proofs.YtnikogholldcmaaDoor
open Go.RowKit
set_option linter.unusedVariables false
attribute [local go_sem ↓] Go.wp_at_zero Go.wp_at_succ

theorem eqFraction_same (p q : Int) (w : World) : Calls Tryd.prog 40 #[.agg #[.int .i64 p, .int .i64 q], .agg #[.int .i64 p, .int .i64 q]] w fun e w' => e = .returned (.bool true) ∧ Below w.heap.size w w' := by
  go_enter Tryd.func40, Tryd.ntmps40
  go_wp2
  go_ret
  exact ⟨rfl, by go_grown⟩

set_option maxHeartbeats 800000 in
theorem l02Make_any (num den : Int) (w : World) (h1 : -9223372036854775807 ≤ num) (h2 : num ≤ 9223372036854775807) (h3 : 1 ≤ den) (h4 : den ≤ 9223372036854775807) :
    Calls Tryd.prog 115 #[.int .i64 num, .int .i64 den] w fun e w' => e = .returned (.agg #[.int .i64 (num.tdiv (Int.gcd num den : Nat)), .int .i64 (den.tdiv (Int.gcd num den : Nat))]) ∧ Below w.heap.size w w' := by
  have hg := gcd_pos (a := num) (.inr (show 0 < den by omega))
  have hgle : Int.gcd num den ≤ den.natAbs := Int.gcd_le_natAbs_right num (by omega)
  obtain ⟨d, rfl⟩ := Int.eq_ofNat_of_zero_le (show 0 ≤ den by omega)
  have hc : ∀ w, Calls Tryd.prog 98 #[.int .i64 (num.natAbs : Int), .int .i64 (d : Int)] w fun e w' => e = .returned (.int .i64 (Int.gcd num (d : Int) : Nat)) ∧ w = w' := fun w => l02Gcd_any num.natAbs d w (by omega) (by omega)
  obtain ⟨g, hgd⟩ : ∃ g, g = Int.gcd num (d : Int) := ⟨_, rfl⟩
  rw [← hgd] at hg hgle ⊢
  simp only [← hgd] at hc
  have Hc := Lib.hid hc
  have b1 := tdiv_bd num (g : Int)
  have b2 := tdiv_bd (d : Int) (g : Int)
  have b1a : -9223372036854775807 ≤ num.tdiv (g : Int) := by omega
  have b1b : num.tdiv (g : Int) ≤ 9223372036854775807 := by omega
  have b2a : 0 ≤ (d : Int).tdiv (g : Int) := Int.tdiv_nonneg (by omega) (by omega)
  have b2b : (d : Int).tdiv (g : Int) ≤ 9223372036854775807 := by omega
  have b3a : 0 ≤ (d : Int) / (g : Int) := Int.ediv_nonneg (by omega) (by omega)
  have b3b : (d : Int) / (g : Int) ≤ 9223372036854775807 := by have := Int.ediv_le_self (g : Int) (show 0 ≤ (d : Int) by omega); omega
  have hg1 : 1 ≤ (g : Int) := by omega
  clear hgd hc b1 b2 hg
  go_enter Tryd.func115, Tryd.ntmps115
  go_wp2_with (first | (go_at_call 99; refine (l02Size_any _ _ (by omega) (by omega)).mono ?_; rintro e w1 ⟨rfl, rfl⟩) | (go_at_call 98; refine (Hc.out _).mono ?_; rintro e w1 ⟨rfl, rfl⟩))
  go_region
  go_wp2
  exact bodyPost_ret (v := .agg #[.int .i64 (num.tdiv (g : Int)), .int .i64 ((d : Int).tdiv (g : Int))]) (by simp [results, Tryd.results115, go_sem]) rfl ⟨rfl, by go_grown⟩


/-- What an operation on two fractions hands back: the plain fraction of num / den, or a code. -/
def opR (p q r s num den : Int) : Int × Int × Int := if vfB p q = true ∧ vfB r s = true then plR num den else (0, 0, 1)
theorem opR_t {p q r s num den : Int} (h1 : vfB p q = true) (h2 : vfB r s = true) : opR p q r s num den = plR num den := if_pos ⟨h1, h2⟩
theorem opR_a {p q r s num den : Int} (h1 : vfB p q = false) : opR p q r s num den = (0, 0, 1) := if_neg (fun h => by rw [h1] at h; cases h.1)
theorem opR_b {p q r s num den : Int} (h2 : vfB r s = false) : opR p q r s num den = (0, 0, 1) := if_neg (fun h => by rw [h2] at h; cases h.2)

set_option maxHeartbeats 1600000 in
theorem implAdd_any (p q r s : Int) (w : World) : Calls Tryd.prog 43 #[.agg #[.int .i64 p, .int .i64 q], .agg #[.int .i64 r, .int .i64 s]] w fun e w' =>
    e = .returned (.tuple #[.agg #[.int .i64 (opR p q r s (p*s+r*q) (q*s)).1, .int .i64 (opR p q r s (p*s+r*q) (q*s)).2.1], .int .i64 (opR p q r s (p*s+r*q) (q*s)).2.2]) ∧ Below w.heap.size w w' := by
  cases h1 : vfB p q
  · rw [opR_a h1]
    go_enter Tryd.func43, Tryd.ntmps43
    go_wp2_with fail
    refine (validFraction_any p q _).mono ?_
    rintro e w1 ⟨rfl, hb1⟩
    obtain ⟨hc1, hf1, hs1⟩ := keepc hb1
    have hB1 : Below w.heap.size w w1 := Below.trans (by go_grown) (hb1.mono (by first | exact Nat.le_refl _ | (simp only [World.size_alloc]; omega)))
    try simp only [World.size_alloc] at hs1
    have hl1_0 : w.heap.size < w1.heap.size := by omega
    have hl1_1 : w.heap.size + 1 < w1.heap.size := by omega
    have hl1_2 : w.heap.size + 2 < w1.heap.size := by omega
    have z0 : w1.cell? ⟨w.heap.size + 2, 0, none⟩ = some (.int .i64 0) := by rw [hc1 _ _ (by simp only [World.size_alloc]; omega)]; simp [go_sem]
    have z1 : w1.cell? ⟨w.heap.size + 2, 1, none⟩ = some (.int .i64 0) := by rw [hc1 _ _ (by simp only [World.size_alloc]; omega)]; simp [go_sem]
    go_wp2_with fail
    exact bodyPost_ret (v := .tuple #[.agg #[.int .i64 0, .int .i64 0], .int .i64 1]) (by simp [results, Tryd.results43, go_sem, pair_set z0 z1]) rfl ⟨rfl, (hB1.setCell (p := ⟨w.heap.size + 2, 0, none⟩) (by simp) _).setCell (p := ⟨w.heap.size + 2, 1, none⟩) (by simp) _⟩
  · cases h2 : vfB r s
    · rw [opR_b h2]
      go_enter Tryd.func43, Tryd.ntmps43
      go_wp2_with fail
      refine (validFraction_any p q _).mono ?_
      rintro e w1 ⟨rfl, hb1⟩
      obtain ⟨hc1, hf1, hs1⟩ := keepc hb1
      have hB1 : Below w.heap.size w w1 := Below.trans (by go_grown) (hb1.mono (by first | exact Nat.le_refl _ | (simp only [World.size_alloc]; omega)))
      try simp only [World.size_alloc] at hs1
      have hl1_0 : w.heap.size < w1.heap.size := by omega
      have hl1_1 : w.heap.size + 1 < w1.heap.size := by omega
      have hl1_2 : w.heap.size + 2 < w1.heap.size := by omega
      go_wp2_with fail
      refine (validFraction_any r s _).mono ?_
      rintro e w2 ⟨rfl, hb2⟩
      obtain ⟨hc2, hf2, hs2⟩ := keepc hb2
      have hB2 : Below w.heap.size w w2 := hB1.trans (hb2.mono (by have := hB1.size; omega))
      have hl2_0 : w.heap.size < w2.heap.size := by omega
      have hl2_1 : w.heap.size + 1 < w2.heap.size := by omega
      have hl2_2 : w.heap.size + 2 < w2.heap.size := by omega
      have z0 : w2.cell? ⟨w.heap.size + 2, 0, none⟩ = some (.int .i64 0) := by rw [hc2 _ _ (by omega), hc1 _ _ (by simp only [World.size_alloc]; omega)]; simp [go_sem]
      have z1 : w2.cell? ⟨w.heap.size + 2, 1, none⟩ = some (.int .i64 0) := by rw [hc2 _ _ (by omega), hc1 _ _ (by simp only [World.size_alloc]; omega)]; simp [go_sem]
      go_wp2_with fail
      exact bodyPost_ret (v := .tuple #[.agg #[.int .i64 0, .int .i64 0], .int .i64 1]) (by simp [results, Tryd.results43, go_sem, pair_set z0 z1]) rfl ⟨rfl, (hB2.setCell (p := ⟨w.heap.size + 2, 0, none⟩) (by simp) _).setCell (p := ⟨w.heap.size + 2, 1, none⟩) (by simp) _⟩
    · rw [opR_t h1 h2]
      obtain ⟨a1, a2, a3, a4, _⟩ := vfB_iff.1 h1
      obtain ⟨b1, b2, b3, b4, _⟩ := vfB_iff.1 h2
      obtain ⟨m1, m2⟩ := mul_bd a3 a4 (by omega) b2 (y := s)
      obtain ⟨m3, m4⟩ := mul_bd b3 b4 (by omega) a2 (y := q)
      obtain ⟨m5, m6⟩ := mul_bd (x := q) (y := s) (by omega) a2 (by omega) b2
      obtain ⟨m7, m8⟩ := mul_bd a3 a4 b3 b4
      have m9 : 0 < q * s := Int.mul_pos (by omega) (by omega)
      go_enter Tryd.func43, Tryd.ntmps43
      go_wp2_with fail
      refine (validFraction_any p q _).mono ?_
      rintro e w1 ⟨rfl, hb1⟩
      obtain ⟨hc1, hf1, hs1⟩ := keepc hb1
      have hB1 : Below w.heap.size w w1 := Below.trans (by go_grown) (hb1.mono (by first | exact Nat.le_refl _ | (simp only [World.size_alloc]; omega)))
      try simp only [World.size_alloc] at hs1
      have hl1_0 : w.heap.size < w1.heap.size := by omega
      have hl1_1 : w.heap.size + 1 < w1.heap.size := by omega
      have hl1_2 : w.heap.size + 2 < w1.heap.size := by omega
      go_wp2_with fail
      refine (validFraction_any r s _).mono ?_
      rintro e w2 ⟨rfl, hb2⟩
      obtain ⟨hc2, hf2, hs2⟩ := keepc hb2
      have hB2 : Below w.heap.size w w2 := hB1.trans (hb2.mono (by have := hB1.size; omega))
      have hl2_0 : w.heap.size < w2.heap.size := by omega
      have hl2_1 : w.heap.size + 1 < w2.heap.size := by omega
      have hl2_2 : w.heap.size + 2 < w2.heap.size := by omega
      go_wp2_with fail
      refine (plainOf_any (p*s+r*q) (q*s) _ (by omega) (by omega) (by omega) (by omega) (.inr (by omega))).mono ?_
      rintro e w3 ⟨rfl, hb3⟩
      obtain ⟨hc3, hf3, hs3⟩ := keepc hb3
      have hB3 : Below w.heap.size w w3 := hB2.trans (hb3.mono (by have := hB2.size; omega))
      have hl3_0 : w.heap.size < w3.heap.size := by omega
      have hl3_1 : w.heap.size + 1 < w3.heap.size := by omega
      have hl3_2 : w.heap.size + 2 < w3.heap.size := by omega
      have z0 : w3.cell? ⟨w.heap.size + 2, 0, none⟩ = some (.int .i64 0) := by rw [hc3 _ _ (by omega), hc2 _ _ (by omega), hc1 _ _ (by simp only [World.size_alloc]; omega)]; simp [go_sem]
      have z1 : w3.cell? ⟨w.heap.size + 2, 1, none⟩ = some (.int .i64 0) := by rw [hc3 _ _ (by omega), hc2 _ _ (by omega), hc1 _ _ (by simp only [World.size_alloc]; omega)]; simp [go_sem]
      go_wp2_with fail
      exact bodyPost_ret (v := .tuple #[.agg #[.int .i64 (plR (p*s+r*q) (q*s)).1, .int .i64 (plR (p*s+r*q) (q*s)).2.1], .int .i64 (plR (p*s+r*q) (q*s)).2.2]) (by simp [results, Tryd.results43, go_sem, pair_set z0 z1]) rfl ⟨rfl, (hB3.setCell (p := ⟨w.heap.size + 2, 0, none⟩) (by simp) _).setCell (p := ⟨w.heap.size + 2, 1, none⟩) (by simp) _⟩
set_option maxHeartbeats 1600000 in
theorem implSub_any (p q r s : Int) (w : World) : Calls Tryd.prog 44 #[.agg #[.int .i64 p, .int .i64 q], .agg #[.int .i64 r, .int .i64 s]] w fun e w' =>
    e = .returned (.tuple #[.agg #[.int .i64 (opR p q r s (p*s-r*q) (q*s)).1, .int .i64 (opR p q r s (p*s-r*q) (q*s)).2.1], .int .i64 (opR p q r s (p*s-r*q) (q*s)).2.2]) ∧ Below w.heap.size w w' := by
  cases h1 : vfB p q
  · rw [opR_a h1]
    go_enter Tryd.func44, Tryd.ntmps44
    go_wp2_with fail
    refine (validFraction_any p q _).mono ?_
    rintro e w1 ⟨rfl, hb1⟩
    obtain ⟨hc1, hf1, hs1⟩ := keepc hb1
    have hB1 : Below w.heap.size w w1 := Below.trans (by go_grown) (hb1.mono (by first | exact Nat.le_refl _ | (simp only [World.size_alloc]; omega)))
    try simp only [World.size_alloc] at hs1
    have hl1_0 : w.heap.size < w1.heap.size := by omega
    have hl1_1 : w.heap.size + 1 < w1.heap.size := by omega
    have hl1_2 : w.heap.size + 2 < w1.heap.size := by omega
    have z0 : w1.cell? ⟨w.heap.size + 2, 0, none⟩ = some (.int .i64 0) := by rw [hc1 _ _ (by simp only [World.size_alloc]; omega)]; simp [go_sem]
    have z1 : w1.cell? ⟨w.heap.size + 2, 1, none⟩ = some (.int .i64 0) := by rw [hc1 _ _ (by simp only [World.size_alloc]; omega)]; simp [go_sem]
    go_wp2_with fail
    exact bodyPost_ret (v := .tuple #[.agg #[.int .i64 0, .int .i64 0], .int .i64 1]) (by simp [results, Tryd.results44, go_sem, pair_set z0 z1]) rfl ⟨rfl, (hB1.setCell (p := ⟨w.heap.size + 2, 0, none⟩) (by simp) _).setCell (p := ⟨w.heap.size + 2, 1, none⟩) (by simp) _⟩
  · cases h2 : vfB r s
    · rw [opR_b h2]
      go_enter Tryd.func44, Tryd.ntmps44
      go_wp2_with fail
      refine (validFraction_any p q _).mono ?_
      rintro e w1 ⟨rfl, hb1⟩
      obtain ⟨hc1, hf1, hs1⟩ := keepc hb1
      have hB1 : Below w.heap.size w w1 := Below.trans (by go_grown) (hb1.mono (by first | exact Nat.le_refl _ | (simp only [World.size_alloc]; omega)))
      try simp only [World.size_alloc] at hs1
      have hl1_0 : w.heap.size < w1.heap.size := by omega
      have hl1_1 : w.heap.size + 1 < w1.heap.size := by omega
      have hl1_2 : w.heap.size + 2 < w1.heap.size := by omega
      go_wp2_with fail
      refine (validFraction_any r s _).mono ?_
      rintro e w2 ⟨rfl, hb2⟩
      obtain ⟨hc2, hf2, hs2⟩ := keepc hb2
      have hB2 : Below w.heap.size w w2 := hB1.trans (hb2.mono (by have := hB1.size; omega))
      have hl2_0 : w.heap.size < w2.heap.size := by omega
      have hl2_1 : w.heap.size + 1 < w2.heap.size := by omega
      have hl2_2 : w.heap.size + 2 < w2.heap.size := by omega
      have z0 : w2.cell? ⟨w.heap.size + 2, 0, none⟩ = some (.int .i64 0) := by rw [hc2 _ _ (by omega), hc1 _ _ (by simp only [World.size_alloc]; omega)]; simp [go_sem]
      have z1 : w2.cell? ⟨w.heap.size + 2, 1, none⟩ = some (.int .i64 0) := by rw [hc2 _ _ (by omega), hc1 _ _ (by simp only [World.size_alloc]; omega)]; simp [go_sem]
      go_wp2_with fail
      exact bodyPost_ret (v := .tuple #[.agg #[.int .i64 0, .int .i64 0], .int .i64 1]) (by simp [results, Tryd.results44, go_sem, pair_set z0 z1]) rfl ⟨rfl, (hB2.setCell (p := ⟨w.heap.size + 2, 0, none⟩) (by simp) _).setCell (p := ⟨w.heap.size + 2, 1, none⟩) (by simp) _⟩
    · rw [opR_t h1 h2]
      obtain ⟨a1, a2, a3, a4, _⟩ := vfB_iff.1 h1
      obtain ⟨b1, b2, b3, b4, _⟩ := vfB_iff.1 h2
      obtain ⟨m1, m2⟩ := mul_bd a3 a4 (by omega) b2 (y := s)
      obtain ⟨m3, m4⟩ := mul_bd b3 b4 (by omega) a2 (y := q)
      obtain ⟨m5, m6⟩ := mul_bd (x := q) (y := s) (by omega) a2 (by omega) b2
      obtain ⟨m7, m8⟩ := mul_bd a3 a4 b3 b4
      have m9 : 0 < q * s := Int.mul_pos (by omega) (by omega)
      go_enter Tryd.func44, Tryd.ntmps44
      go_wp2_with fail
      refine (validFraction_any p q _).mono ?_
      rintro e w1 ⟨rfl, hb1⟩
      obtain ⟨hc1, hf1, hs1⟩ := keepc hb1
      have hB1 : Below w.heap.size w w1 := Below.trans (by go_grown) (hb1.mono (by first | exact Nat.le_refl _ | (simp only [World.size_alloc]; omega)))
      try simp only [World.size_alloc] at hs1
      have hl1_0 : w.heap.size < w1.heap.size := by omega
      have hl1_1 : w.heap.size + 1 < w1.heap.size := by omega
      have hl1_2 : w.heap.size + 2 < w1.heap.size := by omega
      go_wp2_with fail
      refine (validFraction_any r s _).mono ?_
      rintro e w2 ⟨rfl, hb2⟩
      obtain ⟨hc2, hf2, hs2⟩ := keepc hb2
      have hB2 : Below w.heap.size w w2 := hB1.trans (hb2.mono (by have := hB1.size; omega))
      have hl2_0 : w.heap.size < w2.heap.size := by omega
      have hl2_1 : w.heap.size + 1 < w2.heap.size := by omega
      have hl2_2 : w.heap.size + 2 < w2.heap.size := by omega
      go_wp2_with fail
      refine (plainOf_any (p*s-r*q) (q*s) _ (by omega) (by omega) (by omega) (by omega) (.inr (by omega))).mono ?_
      rintro e w3 ⟨rfl, hb3⟩
      obtain ⟨hc3, hf3, hs3⟩ := keepc hb3
      have hB3 : Below w.heap.size w w3 := hB2.trans (hb3.mono (by have := hB2.size; omega))
      have hl3_0 : w.heap.size < w3.heap.size := by omega
      have hl3_1 : w.heap.size + 1 < w3.heap.size := by omega
      have hl3_2 : w.heap.size + 2 < w3.heap.size := by omega
      have z0 : w3.cell? ⟨w.heap.size + 2, 0, none⟩ = some (.int .i64 0) := by rw [hc3 _ _ (by omega), hc2 _ _ (by omega), hc1 _ _ (by simp only [World.size_alloc]; omega)]; simp [go_sem]
      have z1 : w3.cell? ⟨w.heap.size + 2, 1, none⟩ = some (.int .i64 0) := by rw [hc3 _ _ (by omega), hc2 _ _ (by omega), hc1 _ _ (by simp only [World.size_alloc]; omega)]; simp [go_sem]
      go_wp2_with fail
      exact bodyPost_ret (v := .tuple #[.agg #[.int .i64 (plR (p*s-r*q) (q*s)).1, .int .i64 (plR (p*s-r*q) (q*s)).2.1], .int .i64 (plR (p*s-r*q) (q*s)).2.2]) (by simp [results, Tryd.results44, go_sem, pair_set z0 z1]) rfl ⟨rfl, (hB3.setCell (p := ⟨w.heap.size + 2, 0, none⟩) (by simp) _).setCell (p := ⟨w.heap.size + 2, 1, none⟩) (by simp) _⟩
set_option maxHeartbeats 1600000 in
theorem implMul_any (p q r s : Int) (w : World) : Calls Tryd.prog 45 #[.agg #[.int .i64 p, .int .i64 q], .agg #[.int .i64 r, .int .i64 s]] w fun e w' =>
    e = .returned (.tuple #[.agg #[.int .i64 (opR p q r s (p*r) (q*s)).1, .int .i64 (opR p q r s (p*r) (q*s)).2.1], .int .i64 (opR p q r s (p*r) (q*s)).2.2]) ∧ Below w.heap.size w w' := by
  cases h1 : vfB p q
  · rw [opR_a h1]
    go_enter Tryd.func45, Tryd.ntmps45
    go_wp2_with fail
    refine (validFraction_any p q _).mono ?_
    rintro e w1 ⟨rfl, hb1⟩
    obtain ⟨hc1, hf1, hs1⟩ := keepc hb1
    have hB1 : Below w.heap.size w w1 := Below.trans (by go_grown) (hb1.mono (by first | exact Nat.le_refl _ | (simp only [World.size_alloc]; omega)))
    try simp only [World.size_alloc] at hs1
    have hl1_0 : w.heap.size < w1.heap.size := by omega
    have hl1_1 : w.heap.size + 1 < w1.heap.size := by omega
    have hl1_2 : w.heap.size + 2 < w1.heap.size := by omega
    have z0 : w1.cell? ⟨w.heap.size + 2, 0, none⟩ = some (.int .i64 0) := by rw [hc1 _ _ (by simp only [World.size_alloc]; omega)]; simp [go_sem]
    have z1 : w1.cell? ⟨w.heap.size + 2, 1, none⟩ = some (.int .i64 0) := by rw [hc1 _ _ (by simp only [World.size_alloc]; omega)]; simp [go_sem]
    go_wp2_with fail
    exact bodyPost_ret (v := .tuple #[.agg #[.int .i64 0, .int .i64 0], .int .i64 1]) (by simp [results, Tryd.results45, go_sem, pair_set z0 z1]) rfl ⟨rfl, (hB1.setCell (p := ⟨w.heap.size + 2, 0, none⟩) (by simp) _).setCell (p := ⟨w.heap.size + 2, 1, none⟩) (by simp) _⟩
  · cases h2 : vfB r s
    · rw [opR_b h2]
      go_enter Tryd.func45, Tryd.ntmps45
      go_wp2_with fail
      refine (validFraction_any p q _).mono ?_
      rintro e w1 ⟨rfl, hb1⟩
      obtain ⟨hc1, hf1, hs1⟩ := keepc hb1
      have hB1 : Below w.heap.size w w1 := Below.trans (by go_grown) (hb1.mono (by first | exact Nat.le_refl _ | (simp only [World.size_alloc]; omega)))
      try simp only [World.size_alloc] at hs1
      have hl1_0 : w.heap.size < w1.heap.size := by omega
      have hl1_1 : w.heap.size + 1 < w1.heap.size := by omega
      have hl1_2 : w.heap.size + 2 < w1.heap.size := by omega
      go_wp2_with fail
      refine (validFraction_any r s _).mono ?_
      rintro e w2 ⟨rfl, hb2⟩
      obtain ⟨hc2, hf2, hs2⟩ := keepc hb2
      have hB2 : Below w.heap.size w w2 := hB1.trans (hb2.mono (by have := hB1.size; omega))
      have hl2_0 : w.heap.size < w2.heap.size := by omega
      have hl2_1 : w.heap.size + 1 < w2.heap.size := by omega
      have hl2_2 : w.heap.size + 2 < w2.heap.size := by omega
      have z0 : w2.cell? ⟨w.heap.size + 2, 0, none⟩ = some (.int .i64 0) := by rw [hc2 _ _ (by omega), hc1 _ _ (by simp only [World.size_alloc]; omega)]; simp [go_sem]
      have z1 : w2.cell? ⟨w.heap.size + 2, 1, none⟩ = some (.int .i64 0) := by rw [hc2 _ _ (by omega), hc1 _ _ (by simp only [World.size_alloc]; omega)]; simp [go_sem]
      go_wp2_with fail
      exact bodyPost_ret (v := .tuple #[.agg #[.int .i64 0, .int .i64 0], .int .i64 1]) (by simp [results, Tryd.results45, go_sem, pair_set z0 z1]) rfl ⟨rfl, (hB2.setCell (p := ⟨w.heap.size + 2, 0, none⟩) (by simp) _).setCell (p := ⟨w.heap.size + 2, 1, none⟩) (by simp) _⟩
    · rw [opR_t h1 h2]
      obtain ⟨a1, a2, a3, a4, _⟩ := vfB_iff.1 h1
      obtain ⟨b1, b2, b3, b4, _⟩ := vfB_iff.1 h2
      obtain ⟨m1, m2⟩ := mul_bd a3 a4 (by omega) b2 (y := s)
      obtain ⟨m3, m4⟩ := mul_bd b3 b4 (by omega) a2 (y := q)
      obtain ⟨m5, m6⟩ := mul_bd (x := q) (y := s) (by omega) a2 (by omega) b2
      obtain ⟨m7, m8⟩ := mul_bd a3 a4 b3 b4
      have m9 : 0 < q * s := Int.mul_pos (by omega) (by omega)
      go_enter Tryd.func45, Tryd.ntmps45
      go_wp2_with fail
      refine (validFraction_any p q _).mono ?_
      rintro e w1 ⟨rfl, hb1⟩
      obtain ⟨hc1, hf1, hs1⟩ := keepc hb1
      have hB1 : Below w.heap.size w w1 := Below.trans (by go_grown) (hb1.mono (by first | exact Nat.le_refl _ | (simp only [World.size_alloc]; omega)))
      try simp only [World.size_alloc] at hs1
      have hl1_0 : w.heap.size < w1.heap.size := by omega
      have hl1_1 : w.heap.size + 1 < w1.heap.size := by omega
      have hl1_2 : w.heap.size + 2 < w1.heap.size := by omega
      go_wp2_with fail
      refine (validFraction_any r s _).mono ?_
      rintro e w2 ⟨rfl, hb2⟩
      obtain ⟨hc2, hf2, hs2⟩ := keepc hb2
      have hB2 : Below w.heap.size w w2 := hB1.trans (hb2.mono (by have := hB1.size; omega))
      have hl2_0 : w.heap.size < w2.heap.size := by omega
      have hl2_1 : w.heap.size + 1 < w2.heap.size := by omega
      have hl2_2 : w.heap.size + 2 < w2.heap.size := by omega
      go_wp2_with fail
      refine (plainOf_any (p*r) (q*s) _ (by omega) (by omega) (by omega) (by omega) (.inr (by omega))).mono ?_
      rintro e w3 ⟨rfl, hb3⟩
      obtain ⟨hc3, hf3, hs3⟩ := keepc hb3
      have hB3 : Below w.heap.size w w3 := hB2.trans (hb3.mono (by have := hB2.size; omega))
      have hl3_0 : w.heap.size < w3.heap.size := by omega
      have hl3_1 : w.heap.size + 1 < w3.heap.size := by omega
      have hl3_2 : w.heap.size + 2 < w3.heap.size := by omega
      have z0 : w3.cell? ⟨w.heap.size + 2, 0, none⟩ = some (.int .i64 0) := by rw [hc3 _ _ (by omega), hc2 _ _ (by omega), hc1 _ _ (by simp only [World.size_alloc]; omega)]; simp [go_sem]
      have z1 : w3.cell? ⟨w.heap.size + 2, 1, none⟩ = some (.int .i64 0) := by rw [hc3 _ _ (by omega), hc2 _ _ (by omega), hc1 _ _ (by simp only [World.size_alloc]; omega)]; simp [go_sem]
      go_wp2_with fail
      exact bodyPost_ret (v := .tuple #[.agg #[.int .i64 (plR (p*r) (q*s)).1, .int .i64 (plR (p*r) (q*s)).2.1], .int .i64 (plR (p*r) (q*s)).2.2]) (by simp [results, Tryd.results45, go_sem, pair_set z0 z1]) rfl ⟨rfl, (hB3.setCell (p := ⟨w.heap.size + 2, 0, none⟩) (by simp) _).setCell (p := ⟨w.heap.size + 2, 1, none⟩) (by simp) _⟩
set_option maxHeartbeats 1600000 in
theorem implMed_any (p q r s : Int) (w : World) : Calls Tryd.prog 46 #[.agg #[.int .i64 p, .int .i64 q], .agg #[.int .i64 r, .int .i64 s]] w fun e w' =>
    e = .returned (.tuple #[.agg #[.int .i64 (opR p q r s (p+r) (q+s)).1, .int .i64 (opR p q r s (p+r) (q+s)).2.1], .int .i64 (opR p q r s (p+r) (q+s)).2.2]) ∧ Below w.heap.size w w' := by
  cases h1 : vfB p q
  · rw [opR_a h1]
    go_enter Tryd.func46, Tryd.ntmps46
    go_wp2_with fail
    refine (validFraction_any p q _).mono ?_
    rintro e w1 ⟨rfl, hb1⟩
    obtain ⟨hc1, hf1, hs1⟩ := keepc hb1
    have hB1 : Below w.heap.size w w1 := Below.trans (by go_grown) (hb1.mono (by first | exact Nat.le_refl _ | (simp only [World.size_alloc]; omega)))
    try simp only [World.size_alloc] at hs1
    have hl1_0 : w.heap.size < w1.heap.size := by omega
    have hl1_1 : w.heap.size + 1 < w1.heap.size := by omega
    have hl1_2 : w.heap.size + 2 < w1.heap.size := by omega
    have z0 : w1.cell? ⟨w.heap.size + 2, 0, none⟩ = some (.int .i64 0) := by rw [hc1 _ _ (by simp only [World.size_alloc]; omega)]; simp [go_sem]
    have z1 : w1.cell? ⟨w.heap.size + 2, 1, none⟩ = some (.int .i64 0) := by rw [hc1 _ _ (by simp only [World.size_alloc]; omega)]; simp [go_sem]
    go_wp2_with fail
    exact bodyPost_ret (v := .tuple #[.agg #[.int .i64 0, .int .i64 0], .int .i64 1]) (by simp [results, Tryd.results46, go_sem, pair_set z0 z1]) rfl ⟨rfl, (hB1.setCell (p := ⟨w.heap.size + 2, 0, none⟩) (by simp) _).setCell (p := ⟨w.heap.size + 2, 1, none⟩) (by simp) _⟩
  · cases h2 : vfB r s
    · rw [opR_b h2]
      go_enter Tryd.func46, Tryd.ntmps46
      go_wp2_with fail
      refine (validFraction_any p q _).mono ?_
      rintro e w1 ⟨rfl, hb1⟩
      obtain ⟨hc1, hf1, hs1⟩ := keepc hb1
      have hB1 : Below w.heap.size w w1 := Below.trans (by go_grown) (hb1.mono (by first | exact Nat.le_refl _ | (simp only [World.size_alloc]; omega)))
      try simp only [World.size_alloc] at hs1
      have hl1_0 : w.heap.size < w1.heap.size := by omega
      have hl1_1 : w.heap.size + 1 < w1.heap.size := by omega
      have hl1_2 : w.heap.size + 2 < w1.heap.size := by omega
      go_wp2_with fail
      refine (validFraction_any r s _).mono ?_
      rintro e w2 ⟨rfl, hb2⟩
      obtain ⟨hc2, hf2, hs2⟩ := keepc hb2
      have hB2 : Below w.heap.size w w2 := hB1.trans (hb2.mono (by have := hB1.size; omega))
      have hl2_0 : w.heap.size < w2.heap.size := by omega
      have hl2_1 : w.heap.size + 1 < w2.heap.size := by omega
      have hl2_2 : w.heap.size + 2 < w2.heap.size := by omega
      have z0 : w2.cell? ⟨w.heap.size + 2, 0, none⟩ = some (.int .i64 0) := by rw [hc2 _ _ (by omega), hc1 _ _ (by simp only [World.size_alloc]; omega)]; simp [go_sem]
      have z1 : w2.cell? ⟨w.heap.size + 2, 1, none⟩ = some (.int .i64 0) := by rw [hc2 _ _ (by omega), hc1 _ _ (by simp only [World.size_alloc]; omega)]; simp [go_sem]
      go_wp2_with fail
      exact bodyPost_ret (v := .tuple #[.agg #[.int .i64 0, .int .i64 0], .int .i64 1]) (by simp [results, Tryd.results46, go_sem, pair_set z0 z1]) rfl ⟨rfl, (hB2.setCell (p := ⟨w.heap.size + 2, 0, none⟩) (by simp) _).setCell (p := ⟨w.heap.size + 2, 1, none⟩) (by simp) _⟩
    · rw [opR_t h1 h2]
      obtain ⟨a1, a2, a3, a4, _⟩ := vfB_iff.1 h1
      obtain ⟨b1, b2, b3, b4, _⟩ := vfB_iff.1 h2
      obtain ⟨m1, m2⟩ := mul_bd a3 a4 (by omega) b2 (y := s)
      obtain ⟨m3, m4⟩ := mul_bd b3 b4 (by omega) a2 (y := q)
      obtain ⟨m5, m6⟩ := mul_bd (x := q) (y := s) (by omega) a2 (by omega) b2
      obtain ⟨m7, m8⟩ := mul_bd a3 a4 b3 b4
      have m9 : 0 < q * s := Int.mul_pos (by omega) (by omega)
      go_enter Tryd.func46, Tryd.ntmps46
      go_wp2_with fail
      refine (validFraction_any p q _).mono ?_
      rintro e w1 ⟨rfl, hb1⟩
      obtain ⟨hc1, hf1, hs1⟩ := keepc hb1
      have hB1 : Below w.heap.size w w1 := Below.trans (by go_grown) (hb1.mono (by first | exact Nat.le_refl _ | (simp only [World.size_alloc]; omega)))
      try simp only [World.size_alloc] at hs1
      have hl1_0 : w.heap.size < w1.heap.size := by omega
      have hl1_1 : w.heap.size + 1 < w1.heap.size := by omega
      have hl1_2 : w.heap.size + 2 < w1.heap.size := by omega
      go_wp2_with fail
      refine (validFraction_any r s _).mono ?_
      rintro e w2 ⟨rfl, hb2⟩
      obtain ⟨hc2, hf2, hs2⟩ := keepc hb2
      have hB2 : Below w.heap.size w w2 := hB1.trans (hb2.mono (by have := hB1.size; omega))
      have hl2_0 : w.heap.size < w2.heap.size := by omega
      have hl2_1 : w.heap.size + 1 < w2.heap.size := by omega
      have hl2_2 : w.heap.size + 2 < w2.heap.size := by omega
      go_wp2_with fail
      refine (plainOf_any (p+r) (q+s) _ (by omega) (by omega) (by omega) (by omega) (.inr (by omega))).mono ?_
      rintro e w3 ⟨rfl, hb3⟩
      obtain ⟨hc3, hf3, hs3⟩ := keepc hb3
      have hB3 : Below w.heap.size w w3 := hB2.trans (hb3.mono (by have := hB2.size; omega))
      have hl3_0 : w.heap.size < w3.heap.size := by omega
      have hl3_1 : w.heap.size + 1 < w3.heap.size := by omega
      have hl3_2 : w.heap.size + 2 < w3.heap.size := by omega
      have z0 : w3.cell? ⟨w.heap.size + 2, 0, none⟩ = some (.int .i64 0) := by rw [hc3 _ _ (by omega), hc2 _ _ (by omega), hc1 _ _ (by simp only [World.size_alloc]; omega)]; simp [go_sem]
      have z1 : w3.cell? ⟨w.heap.size + 2, 1, none⟩ = some (.int .i64 0) := by rw [hc3 _ _ (by omega), hc2 _ _ (by omega), hc1 _ _ (by simp only [World.size_alloc]; omega)]; simp [go_sem]
      go_wp2_with fail
      exact bodyPost_ret (v := .tuple #[.agg #[.int .i64 (plR (p+r) (q+s)).1, .int .i64 (plR (p+r) (q+s)).2.1], .int .i64 (plR (p+r) (q+s)).2.2]) (by simp [results, Tryd.results46, go_sem, pair_set z0 z1]) rfl ⟨rfl, (hB3.setCell (p := ⟨w.heap.size + 2, 0, none⟩) (by simp) _).setCell (p := ⟨w.heap.size + 2, 1, none⟩) (by simp) _⟩
end Go.Proofs.YtnikogholldcmaaDoor
