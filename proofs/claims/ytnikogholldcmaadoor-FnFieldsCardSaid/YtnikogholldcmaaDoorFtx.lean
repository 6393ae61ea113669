/-
  The text of a fraction: contracts of the program's and of the reference's functions; the walk of the law FnExactFractionText.
  The table of the powers of ten holds what its initialiser lays.
-/
import Derived.Test.YtnikogholldcmaaDoorProg
import Derived.Test.YtnikogholldcmaaDoorMem
import Derived.Test.YtnikogholldcmaaDoorBasic
import Derived.Test.YtnikogholldcmaaDoorSig
import Derived.Test.YtnikogholldcmaaDoorFrac
import Derived.Test.YtnikogholldcmaaDoorOwn
import Derived.Test.YtnikogholldcmaaDoorNumM
import Derived.Test.YtnikogholldcmaaDoorDec
import Derived.Laws.Concat
import Derived.Handy
import Derived.BigQuiet
import Derived.RegionTactic
import Derived.BigRegion
import Derived.Deep.QuietTactic
import Derived.Deep.RegionHeld3
namespace Go.Proofs.YtnikogholldcmaaDoor
open Go.RowKit
set_option linter.unusedVariables false
set_option linter.unusedSimpArgs false
attribute [local go_sem ↓] Go.wp_at_zero Go.wp_at_succ

theorem decS_size {n : Int} (h0 : -9223372036854775808 ≤ n) (h1 : n ≤ 9223372036854775807) : (decS n).size ≤ 21 := by
  have := Lib.itoa_length_le n h0 h1
  show (Lib.itoa n).toArray.size ≤ 21
  simpa using this
theorem size_app (a b : ByteArray) : (a ++ b).size = a.size + b.size := by simp
/-- The text of a fraction. -/
def frS (p q : Int) : ByteArray := if vfB p q = true then (if q = 1 then decS p else decS p ++ ⟨#[47]⟩ ++ decS q) else ⟨#[]⟩
section
variable {w W w1 : World} {p q : Int}
theorem one_keep (h : W.cell? ⟨w.heap.size, 0, none⟩ = some (.int .i64 p) ∧ W.cell? ⟨w.heap.size, 1, none⟩ = some (.int .i64 q) ∧ Below w.heap.size w W ∧ w.heap.size < W.heap.size) (hb : Below W.heap.size W w1) :
    w1.cell? ⟨w.heap.size, 0, none⟩ = some (.int .i64 p) ∧ w1.cell? ⟨w.heap.size, 1, none⟩ = some (.int .i64 q) ∧ Below w.heap.size w w1 ∧ w.heap.size < w1.heap.size := by
  obtain ⟨h1, h2, h3, h4⟩ := h
  exact ⟨(hb.cell (p := ⟨w.heap.size, 0, none⟩) h4).trans h1, (hb.cell (p := ⟨w.heap.size, 1, none⟩) h4).trans h2, h3.trans (hb.mono h3.size), Nat.lt_of_lt_of_le h4 hb.size⟩
theorem one_drew (h : W.cell? ⟨w.heap.size, 0, none⟩ = some (.int .i64 p) ∧ W.cell? ⟨w.heap.size, 1, none⟩ = some (.int .i64 q) ∧ Below w.heap.size w W ∧ w.heap.size < W.heap.size) :
    W.drew.cell? ⟨w.heap.size, 0, none⟩ = some (.int .i64 p) ∧ W.drew.cell? ⟨w.heap.size, 1, none⟩ = some (.int .i64 q) ∧ Below w.heap.size w W.drew ∧ w.heap.size < W.drew.heap.size := ⟨h.1, h.2.1, h.2.2.1.drew, h.2.2.2⟩
theorem one_start (w : World) (p q : Int) (t : TypeId) : (w.alloc (.cells #[.int .i64 p, .int .i64 q] t)).cell? ⟨w.heap.size, 0, none⟩ = some (.int .i64 p) ∧ (w.alloc (.cells #[.int .i64 p, .int .i64 q] t)).cell? ⟨w.heap.size, 1, none⟩ = some (.int .i64 q) ∧ Below w.heap.size w (w.alloc (.cells #[.int .i64 p, .int .i64 q] t)) ∧ w.heap.size < (w.alloc (.cells #[.int .i64 p, .int .i64 q] t)).heap.size :=
  ⟨newcellA rfl rfl, newcellA rfl rfl, (Below.refl _ _).alloc (Nat.le_refl _) _, by simp⟩
theorem one_below (h : W.cell? ⟨w.heap.size, 0, none⟩ = some (.int .i64 p) ∧ W.cell? ⟨w.heap.size, 1, none⟩ = some (.int .i64 q) ∧ Below w.heap.size w W ∧ w.heap.size < W.heap.size) : Below w.heap.size w W := h.2.2.1
end

set_option maxRecDepth 100000 in
set_option maxHeartbeats 1600000 in
theorem implFtx_any (p q : Int) (w : World) (hd : Dr w) : Calls Tryd.prog 22 #[.agg #[.int .i64 p, .int .i64 q]] w fun e w' => e = .returned (.string (frS p q)) ∧ Below w.heap.size w w' := by
  have HD := Lib.hid hd
  have S0 := Lib.hid (one_start w p q 33)
  have HV := Lib.hid (validFraction_any p q (w.alloc (.cells #[.int .i64 p, .int .i64 q] 33)))
  clear hd
  cases hv : vfB p q
  · rw [show frS p q = ⟨#[]⟩ from if_neg (by rw [hv]; decide)]
    rw [hv] at HV
    go_enter Tryd.func22, Tryd.ntmps22
    go_wp2_with fail
    refine HV.out.mono ?_
    rintro e w1 ⟨rfl, hb⟩
    have hB := one_below (one_keep S0.out hb)
    clear hb
    go_wp2_with fail
    go_ret
    exact ⟨rfl, hB⟩
  · obtain ⟨a1, a2, a3, a4, _⟩ := vfB_iff.1 hv
    rw [hv] at HV
    have hs1 : (decS p).size ≤ 21 := decS_size (by omega) (by omega)
    have hs2 : (decS q).size ≤ 21 := decS_size (by omega) (by omega)
    have hs3 : (decS p ++ ⟨#[47]⟩).size ≤ 22 := by rw [size_app]; have : (⟨#[47]⟩ : ByteArray).size = 1 := rfl; omega
    by_cases h1 : q = 1
    · rw [show frS p q = decS p from by unfold frS; rw [if_pos hv, if_pos h1]]
      subst h1
      go_enter Tryd.func22, Tryd.ntmps22
      go_wp2_with fail
      refine HV.out.mono ?_
      rintro e w1 ⟨rfl, hb⟩
      have S1 := Lib.hid (one_keep S0.out hb)
      obtain ⟨u0, u1, u2, u3⟩ := S1.out
      clear hb
      go_wp2_with fail
      refine (decimal_any p _ (by omega) (by omega) (HD.out.below u2)).mono ?_
      rintro e w2 ⟨rfl, hb⟩
      have hB := one_below (one_keep S1.out hb)
      clear hb u0 u1 u2 u3
      go_wp2_with fail
      go_ret
      exact ⟨rfl, hB⟩
    · rw [show frS p q = decS p ++ ⟨#[47]⟩ ++ decS q from by unfold frS; rw [if_pos hv, if_neg h1]]
      have h1' : (q == 1) = false := beq_eq_false_iff_ne.2 h1
      have ad1 := fun W => run_string_add_sum (P := Tryd.prog) W (decS p) ⟨#[47]⟩ (by have : (⟨#[47]⟩ : ByteArray).size = 1 := rfl; omega)
      have ad2 := fun W => run_string_add_sum (P := Tryd.prog) W (decS p ++ ⟨#[47]⟩) (decS q) (by omega)
      clear h1
      go_enter Tryd.func22, Tryd.ntmps22
      go_wp2_with fail
      refine HV.out.mono ?_
      rintro e w1 ⟨rfl, hb⟩
      have S1 := Lib.hid (one_keep S0.out hb)
      obtain ⟨u0, u1, u2, u3⟩ := S1.out
      clear hb u2 S0 HV
      go_wp2_with fail
      go_region_held3 (fun w' => w'.cell? ⟨w.heap.size, 0, none⟩ = some (.int .i64 p) ∧ w'.cell? ⟨w.heap.size, 1, none⟩ = some (.int .i64 q) ∧ Below w.heap.size w w' ∧ w.heap.size < w'.heap.size)
        (first | exact one_keep (by assumption) hb | exact one_drew (by assumption) | exact one_keep (one_drew S1.out) hb | exact one_drew S1.out)
        (first | (go_at_call 19; refine (decimal_any _ _ (by omega) (by omega) (HD.out.below (by first | exact one_below (one_drew S1.out) | exact one_below (by assumption)))).mono ?_; rintro e w2 ⟨rfl, hb⟩))
      have hB : Below w.heap.size w w2 := one_below (by assumption)
      go_wp2_with fail
      go_ret
      exact ⟨rfl, hB⟩
set_option maxRecDepth 100000 in
set_option maxHeartbeats 1600000 in
theorem l02Text_any (p q : Int) (w : World) (hv : vfB p q = true) : Calls Tryd.prog 66 #[.agg #[.int .i64 p, .int .i64 q]] w fun e w' => e = .returned (.string (frS p q)) ∧ Below w.heap.size w w' := by
  have S0 := Lib.hid (one_start w p q 33)
  obtain ⟨a1, a2, a3, a4, _⟩ := vfB_iff.1 hv
  have hs1 : (decS p).size ≤ 21 := decS_size (by omega) (by omega)
  have hs2 : (decS q).size ≤ 21 := decS_size (by omega) (by omega)
  have hs3 : (decS p ++ ⟨#[47]⟩).size ≤ 22 := by rw [size_app]; have : (⟨#[47]⟩ : ByteArray).size = 1 := rfl; omega
  by_cases h1 : q = 1
  · rw [show frS p q = decS p from by unfold frS; rw [if_pos hv, if_pos h1]]
    subst h1
    clear hv
    go_enter Tryd.func66, Tryd.ntmps66
    go_wp2_with fail
    refine (l01Dec_any p _ (by omega) (by omega)).mono ?_
    rintro e w2 ⟨rfl, hb⟩
    have hB := one_below (one_keep S0.out hb)
    clear hb
    go_wp2_with fail
    go_ret
    exact ⟨rfl, hB⟩
  · rw [show frS p q = decS p ++ ⟨#[47]⟩ ++ decS q from by unfold frS; rw [if_pos hv, if_neg h1]]
    have h1' : (q == 1) = false := beq_eq_false_iff_ne.2 h1
    have ad1 := fun W => run_string_add_sum (P := Tryd.prog) W (decS p) ⟨#[47]⟩ (by have : (⟨#[47]⟩ : ByteArray).size = 1 := rfl; omega)
    have ad2 := fun W => run_string_add_sum (P := Tryd.prog) W (decS p ++ ⟨#[47]⟩) (decS q) (by omega)
    clear h1 hv
    go_enter Tryd.func66, Tryd.ntmps66
    go_wp2_with fail
    go_region_held3 (fun w' => w'.cell? ⟨w.heap.size, 0, none⟩ = some (.int .i64 p) ∧ w'.cell? ⟨w.heap.size, 1, none⟩ = some (.int .i64 q) ∧ Below w.heap.size w w' ∧ w.heap.size < w'.heap.size)
      (first | exact one_keep (by assumption) hb | exact one_drew (by assumption) | exact one_keep (one_drew S0.out) hb | exact one_drew S0.out)
      (first | (go_at_call 63; refine (l01Dec_any _ _ (by omega) (by omega)).mono ?_; rintro e w2 ⟨rfl, hb⟩))
    have hB : Below w.heap.size w w2 := one_below (by assumption)
    go_wp2_with fail
    go_ret
    exact ⟨rfl, hB⟩
theorem specFtx_any (p q : Int) (w : World) : Calls Tryd.prog 20 #[.agg #[.int .i64 p, .int .i64 q]] w fun e w' => e = .returned (.string (frS p q)) ∧ Below w.heap.size w w' := by
  have S0 := Lib.hid (one_start w p q 33)
  have HV := Lib.hid (l02Ok_any p q (w.alloc (.cells #[.int .i64 p, .int .i64 q] 33)))
  cases hv : vfB p q
  · rw [show frS p q = ⟨#[]⟩ from if_neg (by rw [hv]; decide)]
    rw [hv] at HV
    go_enter Tryd.func20, Tryd.ntmps20
    go_wp2_with fail
    refine HV.out.mono ?_
    rintro e w1 ⟨rfl, hb⟩
    have hB := one_below (one_keep S0.out hb)
    clear hb
    go_wp2_with fail
    go_ret
    exact ⟨rfl, hB⟩
  · rw [hv] at HV
    have HT := Lib.hid (fun W => l02Text_any p q W hv)
    clear hv
    go_enter Tryd.func20, Tryd.ntmps20
    go_wp2_with fail
    refine HV.out.mono ?_
    rintro e w1 ⟨rfl, hb⟩
    have S1 := Lib.hid (one_keep S0.out hb)
    obtain ⟨u0, u1, u2, u3⟩ := S1.out
    clear hb u2
    go_wp2_with fail
    refine (HT.out _).mono ?_
    rintro e w2 ⟨rfl, hb⟩
    have hB := one_below (one_keep S1.out hb)
    clear hb u0 u1 u3
    go_wp2_with fail
    go_ret
    exact ⟨rfl, hB⟩
theorem fnExactFractionText_walk (p q : Int) (_ : -9223372036854775808 ≤ p) (_ : p ≤ 9223372036854775807) (_ : -9223372036854775808 ≤ q) (_ : q ≤ 9223372036854775807) (w : World) (hd : Dr w) :
    Calls Tryd.prog 5 #[.agg #[.int .i64 p, .int .i64 q]] w fun e w' => e = .returned (.bool true) ∧ Below w.heap.size w w' := by
  have HD := Lib.hid hd
  clear hd
  go_enter Tryd.func5, Tryd.ntmps5
  go_wp2_with fail
  refine (toFraction_any p q _).mono ?_
  rintro e w1 ⟨rfl, hb1⟩
  obtain ⟨hc1, hf1, hs1⟩ := keepc hb1
  have hB1 : Below w.heap.size w w1 := Below.trans (by go_grown) (hb1.mono (by first | exact Nat.le_refl _ | (simp only [World.size_alloc]; omega)))
  try simp only [World.size_alloc] at hs1
  have hl1_0 : w.heap.size < w1.heap.size := by omega
  go_wp2_with fail
  refine (specFtx_any p q _).mono ?_
  rintro e w2 ⟨rfl, hb2⟩
  obtain ⟨hc2, hf2, hs2⟩ := keepc hb2
  have hB2 : Below w.heap.size w w2 := hB1.trans (hb2.mono (by have := hB1.size; omega))
  have hl2_0 : w.heap.size < w2.heap.size := by omega
  go_wp2_with fail
  refine (toFraction_any p q _).mono ?_
  rintro e w3 ⟨rfl, hb3⟩
  obtain ⟨hc3, hf3, hs3⟩ := keepc hb3
  have hB3 : Below w.heap.size w w3 := hB2.trans (hb3.mono (by have := hB2.size; omega))
  have hl3_0 : w.heap.size < w3.heap.size := by omega
  go_wp2_with fail
  refine (implFtx_any p q _ (HD.out.below hB3)).mono ?_
  rintro e w4 ⟨rfl, hb4⟩
  obtain ⟨hc4, hf4, hs4⟩ := keepc hb4
  have hB4 : Below w.heap.size w w4 := hB3.trans (hb4.mono (by have := hB3.size; omega))
  have hl4_0 : w.heap.size < w4.heap.size := by omega
  go_wp2_with fail
  go_ret
  exact ⟨rfl, hB4⟩
end Go.Proofs.YtnikogholldcmaaDoor
