/-
  The rows of the Stern-Brocot tree: the comparison of equal rows; the walk of the law FnExactRowOfTree.
  No condition but those of the law's own text.
-/
import Derived.Test.YtikdahbjfehhdaaProg
import Derived.Test.YtikdahbjfehhdaaMem
import Derived.Test.YtikdahbjfehhdaaBasic
import Derived.Test.YtikdahbjfehhdaaSig
import Derived.Test.YtikdahbjfehhdaaMarks
import Derived.Test.YtikdahbjfehhdaaFrac3
import Derived.Test.YtikdahbjfehhdaaRow
import Derived.Test.YtikdahbjfehhdaaRow2
import Derived.Handy
import Derived.BigQuiet
import Derived.RegionTactic
import Derived.BigRegion
import Derived.Deep.QuietTactic
import Derived.Deep.RegionHeld3
import Derived.Deep.DrawnRows
import Derived.Deep.AppendLies
namespace Go.Proofs.Ytikdahbjfehhdaa
open Go.RowKit
set_option linter.unusedVariables false
attribute [local go_sem ↓] Go.wp_at_zero Go.wp_at_succ

theorem eqFractionS_same (A : Option Addr) (n cap : Nat) (A' : Option Addr) (cap' : Nat) (zs : List (Int × Int)) (w : World) (h : PRow w A n zs) (h' : PRow w A' n zs) :
    Calls Try.prog 29 #[.slice A n cap, .slice A' n cap'] w fun e w' => e = .returned (.bool true) ∧ Below w.heap.size w w' := by
  have hbd := h.bd
  have hw := Lib.hid h; clear h
  have hw' := Lib.hid h'; clear h'
  go_enter Try.func29, Try.ntmps29
  go_wp2
  go_loopw [5] (fun i wr => ∃ k : Nat, k ≤ n ∧ i = .int .i64 k ∧ Below w.heap.size w wr) (fun i _ => n - (intOf i).toNat)
  case atStart => exact ⟨0, Nat.zero_le _, rfl, Below.refl _ _⟩
  case round =>
    obtain ⟨k, hk, rfl, hb⟩ := hrel
    by_cases hlt : k < n
    · obtain ⟨bb, o, x, y, rfl, hz, x1, x2, y1, y2, hc1, hc2⟩ := (hw.out.below hb).at_ hlt
      obtain ⟨bb', o', x', y', rfl, hz', _, _, _, _, hc1', hc2'⟩ := (hw'.out.below hb).at_ hlt
      rw [hz] at hz'; injection hz' with hz'; injection hz' with e1 e2; subst e1 e2
      clear hz
      have hb0 : (0 : Int) ≤ (k : Int) := by omega
      have hb1 : (k : Int) < (n : Int) := by omega
      go_wp2
      go_region_held3 (fun w' => w'.cell? ⟨bb, o + k * 2, none⟩ = some (.int .i64 x) ∧ w'.cell? ⟨bb, o + k * 2 + 1, none⟩ = some (.int .i64 y) ∧ w'.cell? ⟨bb', o' + k * 2, none⟩ = some (.int .i64 x) ∧ w'.cell? ⟨bb', o' + k * 2 + 1, none⟩ = some (.int .i64 y) ∧ Below w.heap.size w w')
        (first | exact four_keep (by assumption) hbb | exact four_drew ⟨hc1, hc2, hc1', hc2', hb⟩ | exact four_drew (by assumption))
        (first | (go_at_call 36; refine (eqFraction_same x y _).mono ?_; rintro e w1 ⟨rfl, hbb⟩))
      go_wp2
      go_roundw
      case rel => exact ⟨k + 1, by omega, by go_num, four_below (by assumption)⟩
      case measure => simp [intOf]; omega
    · obtain rfl : n = k := by omega
      go_wp2
      go_ret
      exact ⟨rfl, hb⟩

theorem rng_row (l : Nat) : ∀ (p q r t : Int), 0 ≤ p → p * 2 ^ l ≤ 1099511627776 → 0 ≤ q → q * 2 ^ l ≤ 1099511627776 → 0 ≤ r → r * 2 ^ l ≤ 1099511627776 → 0 ≤ t → t * 2 ^ l ≤ 1099511627776 → ∀ z ∈ rowL l p q r t, Rng z.1 ∧ Rng z.2 := by
  induction l with
  | zero =>
    intro p q r t p1 p2 q1 q2 r1 r2 t1 t2 z hz
    have p3 := bd_le p1 p2
    have q3 := bd_le q1 q2
    have r3 := bd_le r1 r2
    have t3 := bd_le t1 t2
    simp only [rowL, List.mem_singleton] at hz
    subst hz
    unfold Rng
    simp only
    omega
  | succ l ih =>
    intro p q r t p1 p2 q1 q2 r1 r2 t1 t2 z hz
    obtain ⟨a1, a2, a3⟩ := bd_half p1 p2 r1 r2
    obtain ⟨b1, b2, b3⟩ := bd_half q1 q2 t1 t2
    obtain ⟨_, _, a4⟩ := bd_half r1 r2 r1 r2
    obtain ⟨_, _, b4⟩ := bd_half t1 t2 t1 t2
    rw [rowL, List.mem_append] at hz
    rcases hz with hz | hz
    · exact ih _ _ _ _ p1 a3 q1 b3 a1 a2 b1 b2 z hz
    · exact ih _ _ _ _ a1 a2 b1 b2 r1 a4 t1 b4 z hz

theorem rng_mk (n : Nat) (h : n ≤ 1024) : ∀ z ∈ mkP 1 n, Rng z.1 ∧ Rng z.2 := by
  intro z hz
  unfold mkP at hz
  obtain ⟨j, hj, rfl⟩ := List.mem_map.mp hz
  have := List.mem_range.mp hj
  unfold Rng
  simp only
  omega

set_option maxHeartbeats 1600000 in
theorem fnExactRowOfTree_walk (l : Int) (_ : -9223372036854775808 ≤ l) (_ : l ≤ 9223372036854775807) (w : World) :
    Calls Try.prog 6 #[.int .i64 l] w fun e w' => e = .returned (.bool true) ∧ Below w.heap.size w w' := by
  cases hb : inB l 0 10
  · have HS : Hid (∀ w, Calls Try.prog 27 #[.int .i64 l] w fun e w' => e = .returned (.tuple #[.slice none 0 0, .int .i64 2]) ∧ Below w.heap.size w w') := fun w => (specRow_any l w).mono fun e w' h => ⟨by have := h.1; unfold rotR at this; rwa [if_neg (by simp [hb])] at this, h.2⟩
    have HI : Hid (∀ w, Calls Try.prog 28 #[.int .i64 l] w fun e w' => e = .returned (.tuple #[.slice none 0 0, .int .i64 2]) ∧ Below w.heap.size w w') := fun w => (implRow_any l w).mono fun e w' h => ⟨by have := h.1; unfold rotR at this; rwa [if_neg (by simp [hb])] at this, h.2⟩
    have hrow : ∀ w : World, PRow w none 0 [] := fun w => PRow.of_own (base := 0) (c := 0) (e := 26) (World.ownsRow_nil ..) (by omega) (by simp)
    have HP := Lib.hid hrow
    clear hrow
    go_enter Try.func6, Try.ntmps6
    go_wp2_with fail
    refine (HS.out _).mono ?_
    rintro e w1 ⟨rfl, hb1⟩
    go_wp2_with fail
    refine (HI.out _).mono ?_
    rintro e w2 ⟨rfl, hb2⟩
    replace hb2 := hb1.trans (hb2.mono hb1.size)
    clear hb1
    go_wp2_with fail
    refine (eqFractionS_same none 0 0 none 0 [] _ (HP.out _) (HP.out _)).mono ?_
    rintro e w3 ⟨rfl, hb3⟩
    replace hb3 := hb2.trans (hb3.mono hb2.size)
    clear hb2
    go_wp2_with fail
    refine (markF_any none 0 0 0 [] 1 _ (World.ownsRow_nil ..) (by omega) (by omega) (by omega)).mono ?_
    rintro e w4 ⟨rfl, _, hg4⟩
    have hb4 := hb3.grown hg4 hb3.size (fun k hk => by cases hk)
    clear hb3 hg4
    go_wp2_with fail
    refine (heldF_any none 0 0 1 _ (HP.out _) (by omega) (by omega) (by omega)).mono ?_
    rintro e w' ⟨rfl, rfl⟩
    go_wp2_with fail
    refine (HI.out _).mono ?_
    rintro e w5 ⟨rfl, hb5⟩
    replace hb5 := hb4.trans (hb5.mono hb4.size)
    clear hb4
    go_wp2_with fail
    refine (eqFractionS_same none 0 0 none 0 [] _ (HP.out _) (HP.out _)).mono ?_
    rintro e w6 ⟨rfl, hb6⟩
    replace hb6 := hb5.trans (hb6.mono hb5.size)
    clear hb5
    go_wp2_with fail
    refine (heldF_any none 0 0 1 _ (HP.out _) (by omega) (by omega) (by omega)).mono ?_
    rintro e w' ⟨rfl, rfl⟩
    go_wp2_with fail
    go_ret
    exact ⟨rfl, hb6⟩
  · have hr : 0 ≤ l ∧ l ≤ 10 := inB_iff.mp hb
    have hpw : 2 ^ l.toNat ≤ 1024 := Nat.pow_le_pow_right (n := 2) (by omega) (show l.toNat ≤ 10 by omega)
    have hpz : (2 : Int) ^ l.toNat ≤ 1024 := by have : ((2 ^ l.toNat : Nat) : Int) = (2 : Int) ^ l.toNat := by simp
                                                omega
    have hrg := rng_row l.toNat 0 1 1 0 (by omega) (by omega) (by omega) (by omega) (by omega) (by omega) (by omega) (by omega)
    obtain ⟨N, zs, hN, hrg, HS, HI⟩ : ∃ (N : Nat) (zs : List (Int × Int)), N ≤ 1024 ∧ (∀ z ∈ zs, Rng z.1 ∧ Rng z.2) ∧
        Hid (∀ w, Calls Try.prog 27 #[.int .i64 l] w fun e w' => (∃ A c, e = .returned (.tuple #[.slice A N c, .int .i64 0]) ∧ w'.ownsRow w.heap.size 26 2 (.slice A N c) N (prs zs)) ∧ Below w.heap.size w w') ∧
        Hid (∀ w, Calls Try.prog 28 #[.int .i64 l] w fun e w' => (∃ A c, e = .returned (.tuple #[.slice A N c, .int .i64 0]) ∧ w'.ownsRow w.heap.size 26 2 (.slice A N c) N (prs zs)) ∧ Below w.heap.size w w') :=
      ⟨2 ^ l.toNat, rowL l.toNat 0 1 1 0, hpw, hrg, fun w => (specRow_any l w).mono fun e w' h => ⟨by have := h.1; unfold rotR at this; rwa [if_pos hb] at this, h.2⟩, fun w => (implRow_any l w).mono fun e w' h => ⟨by have := h.1; unfold rotR at this; rwa [if_pos hb] at this, h.2⟩⟩
    have HR := Lib.hid hrg
    clear hrg hpw hpz hr
    go_enter Try.func6, Try.ntmps6
    go_wp2_with fail
    refine (HS.out _).mono ?_
    rintro e w1 ⟨⟨A0, c0, rfl, ho0⟩, hb1⟩
    have HO := Lib.hid ho0
    clear ho0
    go_wp2_with fail
    refine (HI.out _).mono ?_
    rintro e w2 ⟨⟨A1, c1, rfl, ho1⟩, hb2⟩
    have HO1 := Lib.hid ho1
    replace HO2 := Lib.hid (own_below HO.out hb2)
    replace hb2 := hb1.trans (hb2.mono hb1.size)
    have h12 := Lib.hid hb1.size
    clear hb1 ho1
    go_wp2_with fail
    refine (eqFractionS_same A1 N c1 A0 c0 zs _ (PRow.of_own HO1.out (by omega) HR.out) (PRow.of_own HO2.out (by omega) HR.out)).mono ?_
    rintro e w3 ⟨rfl, hb3⟩
    have HO3 := Lib.hid (own_below HO2.out hb3)
    have HM3 := Lib.hid (own_below HO1.out hb3)
    replace hb3 := hb2.trans (hb3.mono hb2.size)
    clear hb2
    go_wp2_with fail
    refine (markF_any A1 N c1 _ zs 1 _ HM3.out (by omega) (by omega) (by omega)).mono ?_
    rintro e w4 ⟨rfl, ho4, hg4⟩
    have hb4 := hb3.grown hg4 hb3.size (fun k hk => Nat.le_trans h12.out (HO1.out.lt k hk).1)
    have HO4 := Lib.hid (HO3.out.kept hg4 (by
      cases h0 : (Value.slice A0 N c0).ownBlock with
      | none => exact Or.inl rfl
      | some k => exact Or.inr (fun e => by have a := (HO.out.lt k h0).2; have b := (HO1.out.lt k e.symm).1; omega)))
    have HM4 := Lib.hid ho4
    clear hb3 hg4 ho4
    go_wp2_with fail
    refine (heldF_any A1 N c1 1 _ (PRow.of_own HM4.out (by omega) (rng_mk N hN)) (by omega) (by omega) (by omega)).mono ?_
    rintro e w' ⟨rfl, rfl⟩
    go_wp2_with fail
    refine (HI.out _).mono ?_
    rintro e w5 ⟨⟨A2, c2, rfl, ho5⟩, hb5⟩
    have HN5 := Lib.hid ho5
    have HO5 := Lib.hid (own_below HO4.out hb5)
    have HM5 := Lib.hid (own_below HM4.out hb5)
    replace hb5 := hb4.trans (hb5.mono hb4.size)
    clear hb4 ho5
    go_wp2_with fail
    refine (eqFractionS_same A2 N c2 A0 c0 zs _ (PRow.of_own HN5.out (by omega) HR.out) (PRow.of_own HO5.out (by omega) HR.out)).mono ?_
    rintro e w6 ⟨rfl, hb6⟩
    have HM6 := Lib.hid (own_below HM5.out hb6)
    replace hb6 := hb5.trans (hb6.mono hb5.size)
    clear hb5
    go_wp2_with fail
    refine (heldF_any A1 N c1 1 _ (PRow.of_own HM6.out (by omega) (rng_mk N hN)) (by omega) (by omega) (by omega)).mono ?_
    rintro e w' ⟨rfl, rfl⟩
    go_wp2_with fail
    go_ret
    exact ⟨rfl, hb6⟩
end Go.Proofs.Ytikdahbjfehhdaa
