/-
  Contracts of the functions on fractions: absolute values, greatest common divisors, valid fractions, and the laws' copies of fractions.
  No condition but that the integers are int64, and that the least int64 is nobody's argument of an absolute value.
-/
import Derived.Test.YtlpglibnjmjjkaaProg
import Derived.Test.YtlpglibnjmjjkaaMem
import Derived.Test.YtlpglibnjmjjkaaBasic
import Derived.Handy
import Derived.BigQuiet
import Derived.Deep.QuietTactic
namespace Go.Proofs.Ytlpglibnjmjjkaa
open Go.RowKit
set_option linter.unusedVariables false

theorem abs_any (n : Int) (w : World) (h1 : -9223372036854775807 ≤ n) (h2 : n ≤ 9223372036854775807) : Calls Try.prog 25 #[.int .i64 n] w fun e w' => e = .returned (.int .i64 (n.natAbs : Int)) ∧ w = w' := by
  by_cases h : n < 0
  · rw [show (n.natAbs : Int) = -n from by omega]
    go_enter Try.func25, Try.ntmps25
    go_wp2
    go_ret
    exact ⟨rfl, rfl⟩
  · rw [show (n.natAbs : Int) = n from by omega]
    go_enter Try.func25, Try.ntmps25
    go_wp2
    go_ret
    exact ⟨rfl, rfl⟩
theorem l02Size_any (n : Int) (w : World) (h1 : -9223372036854775807 ≤ n) (h2 : n ≤ 9223372036854775807) : Calls Try.prog 54 #[.int .i64 n] w fun e w' => e = .returned (.int .i64 (n.natAbs : Int)) ∧ w = w' := by
  by_cases h : n < 0
  · rw [show (n.natAbs : Int) = -n from by omega]
    go_enter Try.func54, Try.ntmps54
    go_wp2
    go_ret
    exact ⟨rfl, rfl⟩
  · rw [show (n.natAbs : Int) = n from by omega]
    go_enter Try.func54, Try.ntmps54
    go_wp2
    go_ret
    exact ⟨rfl, rfl⟩

theorem l02Gcd_any (a b : Nat) (w : World) (h1 : (a : Int) ≤ 9223372036854775807) (h2 : (b : Int) ≤ 9223372036854775807) : Calls Try.prog 59 #[.int .i64 a, .int .i64 b] w fun e w' => e = .returned (.int .i64 (Nat.gcd a b : Nat)) ∧ w = w' := by
  go_enter Try.func59, Try.ntmps59
  go_wp2
  go_loop [0, 1] (fun u v => ∃ x y : Nat, u = .int .i64 x ∧ v = .int .i64 y ∧ (x : Int) ≤ 9223372036854775807 ∧ (y : Int) ≤ 9223372036854775807 ∧ Nat.gcd x y = Nat.gcd a b) (fun _ v => (intOf v).toNat)
  case atStart => exact ⟨a, b, rfl, rfl, h1, h2, rfl⟩
  case round =>
    obtain ⟨x, y, rfl, rfl, hx, hy, hg⟩ := hrel
    have HG := Lib.hid hg; clear hg
    by_cases hz : y = 0
    · have hx' : x = Nat.gcd a b := by have := HG.out; simpa [hz] using this
      have hy0 : (y : Int) ≤ 0 := by omega
      have HX := Lib.hid hx'; clear hx' hz
      go_wp2
      go_ret
      exact ⟨ret_int (by rw [HX.out]), rfl⟩
    · have hpos : 1 ≤ (y : Int) := by omega
      have hb : ((y : Int) != 0) = true := by rw [bne_iff_ne]; omega
      have hm0 : 0 ≤ (x : Int) % (y : Int) := by omega
      have hm : (x : Int) % (y : Int) < y := Int.emod_lt_of_pos _ (by omega)
      go_wp2
      go_round
      case rel => exact ⟨y, x % y, rfl, by go_num, hy, by omega, by rw [← HG.out, Nat.gcd_comm y (x % y), ← Nat.gcd_rec, Nat.gcd_comm]⟩
      case measure => simp [intOf]; omega

theorem gcd_any (a b : Int) (w : World) (h1 : -9223372036854775807 ≤ a) (h2 : a ≤ 9223372036854775807) (h3 : -9223372036854775807 ≤ b) (h4 : b ≤ 9223372036854775807) :
    Calls Try.prog 51 #[.int .i64 a, .int .i64 b] w fun e w' => e = .returned (.int .i64 (Int.gcd a b : Nat)) ∧ ∃ m, w' = w.drewN m := by
  go_enter Try.func51, Try.ntmps51
  go_wp2_with (first | (go_at_call 25; refine (abs_any _ _ (by assumption) (by assumption)).mono ?_; rintro e w1 ⟨rfl, rfl⟩))
  go_loopw [0, 1] (fun u v wr => ∃ x y : Nat, u = .int .i64 x ∧ v = .int .i64 y ∧ (x : Int) ≤ 9223372036854775807 ∧ (y : Int) ≤ 9223372036854775807 ∧ Nat.gcd x y = Int.gcd a b ∧ ∃ m, wr = w.drewN m) (fun _ v _ => (intOf v).toNat)
  case atStart => exact ⟨a.natAbs, b.natAbs, rfl, rfl, by omega, by omega, rfl, 0, rfl⟩
  case round =>
    obtain ⟨x, y, rfl, rfl, hx, hy, hg, md, rfl⟩ := hrel
    have HG := Lib.hid hg; clear hg
    by_cases hz : y = 0
    · have hx' : x = Int.gcd a b := by have := HG.out; simpa [hz] using this
      have hy0 : (y : Int) ≤ 0 := by omega
      have HX := Lib.hid hx'; clear hx' hz
      go_wp2
      go_ret
      exact ⟨ret_int (by rw [HX.out]), md, rfl⟩
    · have hpos : 1 ≤ (y : Int) := by omega
      have hb : ((y : Int) != 0) = true := by rw [bne_iff_ne]; omega
      have hm0 : 0 ≤ (x : Int) % (y : Int) := by omega
      have hm : (x : Int) % (y : Int) < y := Int.emod_lt_of_pos _ (by omega)
      go_wp2
      go_quiet (fail)
      go_wp2
      go_roundw
      case rel => exact ⟨y, x % y, rfl, by go_num, hy, by omega, by rw [← HG.out, Nat.gcd_comm y (x % y), ← Nat.gcd_rec, Nat.gcd_comm], _, World.drewN_drewN _ _ _⟩
      case measure => simp [intOf]; omega

/-- A fraction is plain. -/
def vfB (p q : Int) : Bool := decide (1 ≤ q ∧ q ≤ 1000000000 ∧ -1000000000 ≤ p ∧ p ≤ 1000000000 ∧ Int.gcd p q = 1)
theorem vfB_t {p q : Int} (h1 : 1 ≤ q) (h2 : q ≤ 1000000000) (h3 : -1000000000 ≤ p) (h4 : p ≤ 1000000000) (h5 : Int.gcd p q = 1) : vfB p q = true := decide_eq_true ⟨h1, h2, h3, h4, h5⟩
theorem vfB_f {p q : Int} (h : ¬ (1 ≤ q ∧ q ≤ 1000000000 ∧ -1000000000 ≤ p ∧ p ≤ 1000000000 ∧ Int.gcd p q = 1)) : vfB p q = false := decide_eq_false h
theorem vfB_iff {p q : Int} : vfB p q = true ↔ 1 ≤ q ∧ q ≤ 1000000000 ∧ -1000000000 ≤ p ∧ p ≤ 1000000000 ∧ Int.gcd p q = 1 := by unfold vfB; exact decide_eq_true_iff

theorem validFraction_any (p q : Int) (w : World) : Calls Try.prog 33 #[.agg #[.int .i64 p, .int .i64 q]] w fun e w' => e = .returned (.bool (vfB p q)) ∧ Below w.heap.size w w' := by
  by_cases h1 : 1 ≤ q ∧ q ≤ 1000000000
  · have i1 := inB_t h1.1 h1.2
    by_cases h2 : -1000000000 ≤ p ∧ p ≤ 1000000000
    · have i2 := inB_t h2.1 h2.2
      obtain ⟨h1a, h1b⟩ := h1
      obtain ⟨h2a, h2b⟩ := h2
      by_cases h3 : Int.gcd p q = 1
      · rw [vfB_t h1a h1b h2a h2b h3]
        have H3 := Lib.hid h3
        have e3 : (((Int.gcd p q : Nat) : Int) == 1) = true := by rw [h3]; rfl
        clear h3
        go_enter Try.func33, Try.ntmps33
        go_wp2_with (first | (go_at_call 48; refine (within_any _ _ _ _).mono ?_; rintro e w1 ⟨rfl, rfl⟩) | (go_at_call 51; refine (gcd_any p q _ (by omega) (by omega) (by omega) (by omega)).mono ?_; rintro e w1 ⟨rfl, m, rfl⟩))
        go_ret
        exact ⟨rfl, ((Below.refl _ _).alloc (Nat.le_refl _) _).trans (below_drewN _ _ _)⟩
      · rw [vfB_f (by omega)]
        have e3 : (((Int.gcd p q : Nat) : Int) == 1) = false := by rw [beq_eq_false_iff_ne]; omega
        clear h3
        go_enter Try.func33, Try.ntmps33
        go_wp2_with (first | (go_at_call 48; refine (within_any _ _ _ _).mono ?_; rintro e w1 ⟨rfl, rfl⟩) | (go_at_call 51; refine (gcd_any p q _ (by omega) (by omega) (by omega) (by omega)).mono ?_; rintro e w1 ⟨rfl, m, rfl⟩))
        go_ret
        exact ⟨rfl, ((Below.refl _ _).alloc (Nat.le_refl _) _).trans (below_drewN _ _ _)⟩
    · rw [vfB_f (by omega)]
      have i2 : inB p (-1000000000) 1000000000 = false := inB_f (by omega)
      clear h1 h2
      go_enter Try.func33, Try.ntmps33
      go_wp2_with (first | (go_at_call 48; refine (within_any _ _ _ _).mono ?_; rintro e w1 ⟨rfl, rfl⟩))
      go_ret
      exact ⟨rfl, (Below.refl _ _).alloc (Nat.le_refl _) _⟩
  · rw [vfB_f (by omega)]
    have i1 : inB q 1 1000000000 = false := inB_f (by omega)
    clear h1
    go_enter Try.func33, Try.ntmps33
    go_wp2_with (first | (go_at_call 48; refine (within_any _ _ _ _).mono ?_; rintro e w1 ⟨rfl, rfl⟩))
    go_ret
    exact ⟨rfl, (Below.refl _ _).alloc (Nat.le_refl _) _⟩

set_option maxHeartbeats 1600000 in
theorem l02Ok_any (p q : Int) (w : World) : Calls Try.prog 35 #[.agg #[.int .i64 p, .int .i64 q]] w fun e w' => e = .returned (.bool (vfB p q)) ∧ Below w.heap.size w w' := by
  by_cases h2 : -1000000000 ≤ p ∧ p ≤ 1000000000
  · have i2 := inB_t h2.1 h2.2
    by_cases h1 : 1 ≤ q ∧ q ≤ 1000000000
    · have i1 := inB_t h1.1 h1.2
      obtain ⟨h1a, h1b⟩ := h1
      obtain ⟨h2a, h2b⟩ := h2
      obtain ⟨d, rfl⟩ := Int.eq_ofNat_of_zero_le (show 0 ≤ q by omega)
      have hgg : Int.gcd p d = Nat.gcd p.natAbs d := rfl
      by_cases h3 : Nat.gcd p.natAbs d = 1
      · rw [vfB_t h1a h1b h2a h2b (by rw [hgg, h3])]
        have e3 : (((Nat.gcd p.natAbs d : Nat) : Int) == 1) = true := by rw [h3]; rfl
        clear h3 hgg
        go_enter Try.func35, Try.ntmps35
        go_wp2
        go_quiet ((first | (go_at_call 52; exact quiet_eq (l00In_any _ _ _ _)) | (go_at_call 54; exact quiet_eq (l02Size_any _ _ (by omega) (by omega))) | (go_at_call 59; exact quiet_eq (l02Gcd_any p.natAbs d _ (by omega) (by omega)))))
        go_wp2
        go_ret
        exact ⟨rfl, ((Below.refl _ _).alloc (Nat.le_refl _) _).trans (below_drewN _ _ _)⟩
      · rw [vfB_f (by rw [hgg]; omega)]
        have e3 : (((Nat.gcd p.natAbs d : Nat) : Int) == 1) = false := by rw [beq_eq_false_iff_ne]; omega
        clear h3 hgg
        go_enter Try.func35, Try.ntmps35
        go_wp2
        go_quiet ((first | (go_at_call 52; exact quiet_eq (l00In_any _ _ _ _)) | (go_at_call 54; exact quiet_eq (l02Size_any _ _ (by omega) (by omega))) | (go_at_call 59; exact quiet_eq (l02Gcd_any p.natAbs d _ (by omega) (by omega)))))
        go_wp2
        go_ret
        exact ⟨rfl, ((Below.refl _ _).alloc (Nat.le_refl _) _).trans (below_drewN _ _ _)⟩
    · rw [vfB_f (by omega)]
      have i1 : inB q 1 1000000000 = false := inB_f (by omega)
      clear h1 h2
      go_enter Try.func35, Try.ntmps35
      go_wp2
      go_quiet ((go_at_call 52; exact quiet_eq (l00In_any _ _ _ _)))
      go_wp2
      go_ret
      exact ⟨rfl, ((Below.refl _ _).alloc (Nat.le_refl _) _).trans (below_drewN _ _ _)⟩
  · rw [vfB_f (by omega)]
    have i2 : inB p (-1000000000) 1000000000 = false := inB_f (by omega)
    clear h2
    go_enter Try.func35, Try.ntmps35
    go_wp2
    go_quiet ((go_at_call 52; exact quiet_eq (l00In_any _ _ _ _)))
    go_wp2
    go_ret
    exact ⟨rfl, ((Below.refl _ _).alloc (Nat.le_refl _) _).trans (below_drewN _ _ _)⟩

end Go.Proofs.Ytlpglibnjmjjkaa
