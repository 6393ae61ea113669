/-
  A floor is not greater than its fraction, and the next integer is; equal fractions have equal lowest terms: the walk of the law FnFloors.
  No condition but those of the law's own text.
-/
import Derived.Test.YtdlmjaohacemfaaProg
import Derived.Test.YtdlmjaohacemfaaMem
import Derived.Test.YtdlmjaohacemfaaBasic
import Derived.Test.YtdlmjaohacemfaaSig
import Derived.Test.YtdlmjaohacemfaaFrac
import Derived.Test.YtdlmjaohacemfaaVfrac
import Derived.Test.YtdlmjaohacemfaaFrac2
import Derived.Test.YtdlmjaohacemfaaFrac5
import Derived.Test.YtdlmjaohacemfaaFrac6
import Derived.Test.YtdlmjaohacemfaaOwn
import Derived.Test.YtdlmjaohacemfaaSrc
import Derived.Test.YtdlmjaohacemfaaDrw
import Derived.Test.YtdlmjaohacemfaaLng
import Derived.Test.YtdlmjaohacemfaaByt
import Derived.Handy
import Derived.BigQuiet
import Derived.Deep.QuietTactic
namespace Go.Proofs.Ytdlmjaohacemfaa
open Go.RowKit
set_option linter.unusedVariables false
set_option linter.unusedSimpArgs false
attribute [local go_sem ↓] Go.wp_at_zero Go.wp_at_succ

theorem mul_small {x y a b : Int} (h1 : -a ≤ x) (h2 : x ≤ a) (h3 : -b ≤ y) (h4 : y ≤ b) : -(a * b) ≤ x * y ∧ x * y ≤ a * b := by
  have h : (x * y).natAbs ≤ a.natAbs * b.natAbs := by rw [Int.natAbs_mul]; exact Nat.mul_le_mul (by omega) (by omega)
  have e : (a.natAbs * b.natAbs : Nat) = (a * b).natAbs := (Int.natAbs_mul a b).symm
  have h0 : 0 ≤ a * b := Int.mul_nonneg (by omega) (by omega)
  omega
theorem mak_lowest {k x y : Int} (hk : 1 ≤ k) (hk2 : k ≤ 200) (hv : vfB x y = true) (x1 : -300 ≤ x) (x2 : x ≤ 300) (y2 : y ≤ 300) : makR (-k * x) (-k * y) = (x, y, 0) := by
  obtain ⟨y1, _, _, _, hg⟩ := vfB_iff.1 hv
  have m1 := mul_small (x := -k) (y := x) (a := 200) (b := 300) (by omega) (by omega) (by omega) (by omega)
  have m2 := mul_small (x := -k) (y := y) (a := 200) (b := 300) (by omega) (by omega) (by omega) (by omega)
  have hneg : -k * y < 0 := by
    have := Int.mul_le_mul hk y1 (by omega) (by omega)
    rw [Int.neg_mul]; omega
  unfold makR
  rw [if_pos ⟨inB_t (by omega) (by omega), inB_t (by omega) (by omega), by omega⟩]
  have hG : plG (-k * x) (-k * y) = -k := by
    unfold plG
    rw [if_pos hneg, Int.gcd_mul_left, hg]; omega
  rw [plR_eq hG, Int.mul_comm (-k) x, Int.mul_comm (-k) y, Int.mul_tdiv_cancel _ (by omega), Int.mul_tdiv_cancel _ (by omega), if_pos hv]
theorem floor_facts {x y : Int} (hv : vfB x y = true) (x1 : -300 ≤ x) (x2 : x ≤ 300) : ∃ q : Int, flrR x y = (q, 0) ∧ -300 ≤ q ∧ q ≤ 300 ∧ q * y ≤ x ∧ x < (q + 1) * y := by
  obtain ⟨y1, _, _, _, _⟩ := vfB_iff.1 hv
  have e1 := Int.ediv_mul_le x (show y ≠ 0 by omega)
  have e2 := Int.lt_ediv_add_one_mul_self x (show 0 < y by omega)
  refine ⟨x / y, if_pos hv, ?_, ?_, e1, e2⟩
  · refine (Int.le_ediv_iff_mul_le (by omega)).2 ?_
    have := Int.mul_le_mul_of_nonneg_left y1 (show (0 : Int) ≤ 300 by omega)
    rw [Int.neg_mul]; omega
  · rcases Int.lt_or_le x 0 with h | h
    · have := Int.ediv_neg_of_neg_of_pos h (show 0 < y by omega); omega
    · have := Int.ediv_le_self y h; omega
theorem at_any (A : Option Addr) (n cap : Nat) (xs : List Int) (w : World) (hx : BRow w A n xs) : Calls Try.prog 9 #[.slice A n cap, .int .i64 0, .int .i64 200] w fun e w' => (∃ r : Int, e = .returned (.int .i64 r) ∧ 0 ≤ r ∧ r < 200) ∧ w = w' := by
  obtain ⟨xl, xn, xb, xr⟩ := hx
  rcases Nat.eq_zero_or_pos n with h0 | h0
  · subst h0
    go_enter Try.func9, Try.ntmps9
    go_wp2_with fail
    go_ret
    exact ⟨⟨0, rfl, by omega, by omega⟩, rfl⟩
  · obtain ⟨x, hx⟩ : ∃ x, xs[0]? = some x := ⟨_, List.getElem?_eq_getElem (by omega)⟩
    obtain ⟨ad, rfl, hc⟩ := xr 0 (.int .u8 x) (by rw [List.getElem?_map, hx]; rfl)
    rw [addr_nil] at hc
    obtain ⟨x0, x1⟩ := xb x (List.mem_of_getElem? hx)
    have e : x.tmod 200 = x % 200 := Int.tmod_eq_emod_of_nonneg x0
    clear xr xb hx xl
    go_enter Try.func9, Try.ntmps9
    go_wp2_with fail
    go_ret
    exact ⟨⟨_, rfl, by omega, by omega⟩, rfl⟩
set_option maxRecDepth 100000 in
set_option maxHeartbeats 3200000 in
theorem fnFloors_walk (w : World) (A : Option Addr) (n cap : Nat) (xs : List Int) (hx : BRow w A n xs) (A' : Option Addr) (n' cap' : Nat) (ys : List Int) (hy : BRow w A' n' ys) :
    Calls Try.prog 3 #[.slice A n cap, .slice A' n' cap'] w fun e w' => e = .returned (.bool true) ∧ Below w.heap.size w w' := by
  have hbd := hx.2.1
  have hbd' := hy.2.1
  have HX := Lib.hid hx
  have HY := Lib.hid hy
  have HL := Lib.hid (long_any A A' n cap n' cap' w hbd hbd')
  clear hx hy
  cases hn : (decide ((3000 : Int) < n) || decide ((3000 : Int) < n'))
  · rw [hn] at HL
    clear hn
    go_enter Try.func3, Try.ntmps3
    go_wp2_with fail
    refine HL.out.mono ?_
    rintro e w' ⟨rfl, rfl⟩
    go_wp2_with fail
    refine (a2Fractions_any A n cap xs w HX.out).mono ?_
    rintro e w1 ⟨⟨x1, y1, x2, y2, x3, y3, rfl, ⟨v1, p1, p2, p3⟩, ⟨v2, q1, q2, q3⟩, _⟩, hb1⟩
    obtain ⟨a1, a2, _⟩ := vfB_iff.1 v1
    obtain ⟨b1, b2, _⟩ := vfB_iff.1 v2
    obtain ⟨q, f1, f2, f3, f4, f5⟩ := floor_facts v1 p1 p2
    have HFl := Lib.hid (fun W => implFloor_any x1 y1 W)
    rw [f1] at HFl
    have HMk := Lib.hid (fun (k : Int) (h1 : 1 ≤ k) (h2 : k ≤ 200) => mak_lowest h1 h2 v1 p1 p2 p3)
    have HN1 := Lib.hid (fun W => areNeighbours_any x1 y1 x2 y2 W)
    have HN2 := Lib.hid (fun W => areNeighbours_any x2 y2 x1 y1 W)
    rw [nbB_c v1 v2] at HN1
    rw [nbB_c v2 v1] at HN2
    have S0 := Lib.hid (two_alloc (two_start w1 x1 y1 x2 y2 25 25) (.cells #[.int .i64 x3, .int .i64 y3] 25))
    have HB1 := Lib.hid hb1
    have hmd1 := mul_small (x := x1) (y := y2) (a := 300) (b := 300) (by omega) (by omega) (by omega) (by omega)
    have hmd2 := mul_small (x := x2) (y := y1) (a := 300) (b := 300) (by omega) (by omega) (by omega) (by omega)
    have hmd3 := mul_small (x := q) (y := y1) (a := 300) (b := 300) (by omega) (by omega) (by omega) (by omega)
    have hmd4 := mul_small (x := q + 1) (y := y1) (a := 301) (b := 300) (by omega) (by omega) (by omega) (by omega)
    clear f1 v1 v2 hb1
    go_wp2_with fail
    refine (HFl.out _).mono ?_
    rintro e w2 ⟨rfl, e2⟩
    have S2 := Lib.hid (two_keep' S0.out e2)
    have HY2 := Lib.hid (HY.out.below (HB1.out.trans ((two_keep' S0.out e2).2.2.2.2.1.mono HB1.out.size)))
    clear e2 S0 HFl
    go_wp2_with fail
    refine (at_any A' n' cap' ys _ HY2.out).mono ?_
    rintro e w' ⟨⟨r, rfl, r0, r1⟩, rfl⟩
    obtain ⟨u0, u1, u2, u3, _⟩ := S2.out
    have hk1 := mul_small (x := -(1 + r)) (y := x1) (a := 200) (b := 300) (by omega) (by omega) (by omega) (by omega)
    have hk2 := mul_small (x := -(1 + r)) (y := y1) (a := 200) (b := 300) (by omega) (by omega) (by omega) (by omega)
    go_wp2_with fail
    refine (implMake_any _ _ _).mono ?_
    rw [HMk.out (1 + r) (by omega) (by omega)]
    rintro e w3 ⟨rfl, e3⟩
    have S3 := Lib.hid (two_alloc (two_keep' S2.out e3) (.cells #[.int .i64 x1, .int .i64 y1] 25))
    have hsz3 : w1.heap.size + 1 < w3.heap.size := (two_keep' S2.out e3).2.2.2.2.2
    clear e3 u0 u1 u2 u3 HMk S2 hk1 hk2
    obtain ⟨u0, u1, u2, u3, _⟩ := S3.out
    have f4' : ¬ x1 < q * y1 := by omega
    have f5' : ¬ (q + 1) * y1 ≤ x1 := by omega
    have hn3 : w1.heap.size ≠ w3.heap.size := by omega
    go_wp2_with fail
    refine (HN1.out _).mono ?_
    rintro e w4 ⟨rfl, e4⟩
    have S4 := Lib.hid (two_keep' S3.out e4)
    clear e4 S3 HN1 u0 u1 u2 u3 f4' f5' f4 f5
    obtain ⟨u0, u1, u2, u3, _⟩ := S4.out
    rcases (by omega : x1 * y2 - x2 * y1 = 1 ∨ x1 * y2 - x2 * y1 = -1 ∨ (x1 * y2 - x2 * y1 ≠ 1 ∧ x1 * y2 - x2 * y1 ≠ -1)) with hd | hd | hd
    · have hb1 : decide ((x1 * y2 - x2 * y1).natAbs = 1) = true := by first | exact decide_eq_true (by omega) | exact decide_eq_false (by omega)
      have hb2 : decide ((x2 * y1 - x1 * y2).natAbs = 1) = true := by first | exact decide_eq_true (by omega) | exact decide_eq_false (by omega)
      rw [hb2] at HN2
      rw [hb1]
      have t1 : (x1 * y2 - x2 * y1 == 1) = true := by first | exact beq_iff_eq.2 hd | exact beq_eq_false_iff_ne.2 (by omega)
      have t2 : (x1 * y2 - x2 * y1 == -1) = false := by first | exact beq_iff_eq.2 hd | exact beq_eq_false_iff_ne.2 (by omega)
      clear hb1 hb2 hd
      go_wp2_with fail
      refine (HN2.out _).mono ?_
      rintro e w5 ⟨rfl, e5⟩
      have hBf := HB1.out.trans ((two_keep' S4.out e5).2.2.2.2.1.mono HB1.out.size)
      clear e5 u0 u1 u2 u3
      go_wp2_with fail
      go_ret
      exact ⟨by simp, hBf⟩
    · have hb1 : decide ((x1 * y2 - x2 * y1).natAbs = 1) = true := by first | exact decide_eq_true (by omega) | exact decide_eq_false (by omega)
      have hb2 : decide ((x2 * y1 - x1 * y2).natAbs = 1) = true := by first | exact decide_eq_true (by omega) | exact decide_eq_false (by omega)
      rw [hb2] at HN2
      rw [hb1]
      have t1 : (x1 * y2 - x2 * y1 == 1) = false := by first | exact beq_iff_eq.2 hd | exact beq_eq_false_iff_ne.2 (by omega)
      have t2 : (x1 * y2 - x2 * y1 == -1) = true := by first | exact beq_iff_eq.2 hd | exact beq_eq_false_iff_ne.2 (by omega)
      clear hb1 hb2 hd
      go_wp2_with fail
      refine (HN2.out _).mono ?_
      rintro e w5 ⟨rfl, e5⟩
      have hBf := HB1.out.trans ((two_keep' S4.out e5).2.2.2.2.1.mono HB1.out.size)
      clear e5 u0 u1 u2 u3
      go_wp2_with fail
      go_ret
      exact ⟨by simp, hBf⟩
    · have hb1 : decide ((x1 * y2 - x2 * y1).natAbs = 1) = false := by first | exact decide_eq_true (by omega) | exact decide_eq_false (by omega)
      have hb2 : decide ((x2 * y1 - x1 * y2).natAbs = 1) = false := by first | exact decide_eq_true (by omega) | exact decide_eq_false (by omega)
      rw [hb2] at HN2
      rw [hb1]
      have t1 : (x1 * y2 - x2 * y1 == 1) = false := by first | exact beq_iff_eq.2 hd | exact beq_eq_false_iff_ne.2 (by omega)
      have t2 : (x1 * y2 - x2 * y1 == -1) = false := by first | exact beq_iff_eq.2 hd | exact beq_eq_false_iff_ne.2 (by omega)
      clear hb1 hb2 hd
      go_wp2_with fail
      refine (HN2.out _).mono ?_
      rintro e w5 ⟨rfl, e5⟩
      have hBf := HB1.out.trans ((two_keep' S4.out e5).2.2.2.2.1.mono HB1.out.size)
      clear e5 u0 u1 u2 u3
      go_wp2_with fail
      go_ret
      exact ⟨by simp, hBf⟩
  · rw [hn] at HL
    clear hn
    go_enter Try.func3, Try.ntmps3
    go_wp2_with fail
    refine HL.out.mono ?_
    rintro e w' ⟨rfl, rfl⟩
    go_wp2_with fail
    go_ret
    exact ⟨rfl, Below.refl _ _⟩
end Go.Proofs.Ytdlmjaohacemfaa
