/-
  Draws of terms with signs: contracts of the reference's draws.
  No condition but those of the law's own text.
-/
import Derived.Test.YtlpglibnjmjjkaaProg
import Derived.Test.YtlpglibnjmjjkaaMem
import Derived.Test.YtlpglibnjmjjkaaBasic
import Derived.Test.YtlpglibnjmjjkaaAllk
import Derived.Test.YtlpglibnjmjjkaaFrac
import Derived.Test.YtlpglibnjmjjkaaFrac3
import Derived.Test.YtlpglibnjmjjkaaMarks
import Derived.Test.YtlpglibnjmjjkaaInts
import Derived.Test.YtlpglibnjmjjkaaSig
import Derived.Test.YtlpglibnjmjjkaaSgn
import Derived.Test.YtlpglibnjmjjkaaOwn
import Derived.Test.YtlpglibnjmjjkaaExp
import Derived.Test.YtlpglibnjmjjkaaKnd
import Derived.Test.YtlpglibnjmjjkaaSrc
import Derived.Test.YtlpglibnjmjjkaaDrw
import Derived.Test.YtlpglibnjmjjkaaDrT
import Derived.Handy
import Derived.BigQuiet
import Derived.RegionTactic
import Derived.BigRegion
import Derived.Deep.QuietTactic
import Derived.Deep.RegionHeld3
import Derived.Deep.DrawnRows
import Derived.Deep.AppendLies
namespace Go.Proofs.Ytlpglibnjmjjkaa
open Go.RowKit
set_option linter.unusedVariables false
set_option linter.unusedSimpArgs false
attribute [local go_sem ↓] Go.wp_at_zero Go.wp_at_succ

theorem make_ok4 {num den : Int} (h1 : -400 ≤ num) (h2 : num ≤ 400) (h3 : 1 ≤ den) (h4 : den ≤ 400) :
    vfB (num.tdiv (Int.gcd num den : Nat)) (den.tdiv (Int.gcd num den : Nat)) = true ∧ -400 ≤ num.tdiv (Int.gcd num den : Nat) ∧ num.tdiv (Int.gcd num den : Nat) ≤ 400 ∧ den.tdiv (Int.gcd num den : Nat) ≤ 400 := by
  have hg : 0 < Int.gcd num den := gcd_pos (a := num) (.inr (show 0 < den by omega))
  have e1 : num.tdiv (Int.gcd num den : Nat) = num / (Int.gcd num den : Nat) := Int.tdiv_eq_ediv_of_dvd (Int.gcd_dvd_left ..)
  have e2 : den.tdiv (Int.gcd num den : Nat) = den / (Int.gcd num den : Nat) := Int.tdiv_eq_ediv_of_dvd (Int.gcd_dvd_right ..)
  have hc : Int.gcd (num / (Int.gcd num den : Nat)) (den / (Int.gcd num den : Nat)) = 1 := Int.gcd_ediv_gcd_ediv_gcd hg
  have b1 := tdiv_bd num (Int.gcd num den : Nat)
  have b2 := tdiv_bd den (Int.gcd num den : Nat)
  have hd : den / (Int.gcd num den : Nat) * (Int.gcd num den : Nat) = den := Int.ediv_mul_cancel (Int.gcd_dvd_right ..)
  have hp : 1 ≤ den / (Int.gcd num den : Nat) := by
    rcases Int.lt_or_le (den / (Int.gcd num den : Nat)) 1 with hl | hl
    · exfalso
      have : den / (Int.gcd num den : Nat) * (Int.gcd num den : Nat) ≤ 0 * (Int.gcd num den : Nat) := Int.mul_le_mul_of_nonneg_right (by omega) (by omega)
      omega
    · exact hl
  rw [e1, e2] at *
  refine ⟨vfB_iff.2 ⟨hp, by omega, by omega, by omega, hc⟩, by omega, by omega, by omega⟩
/-- A drawn fraction. -/
def DrwG (x y : Int) : Prop := vfB x y = true ∧ -400 ≤ x ∧ x ≤ 400 ∧ y ≤ 400
set_option maxHeartbeats 1600000 in
theorem l02Draw_200 (g : Nat) (A : Option Addr) (n cap K : Nat) (xs : List Int) (w0 w : World) (h : St g A n cap K w0 w) (hx : BRow w0 A n xs) (hk : K ≤ 800) (hg : w0.heap.size ≤ g) :
    Calls Try.prog 37 #[.pointer (some ⟨g, 0, none⟩), .int .i64 200] w fun e w' => (∃ x y : Int, e = .returned (.agg #[.int .i64 x, .int .i64 y]) ∧ DrwG x y) ∧ St g A n cap (K + 8) w0 w' ∧ Kg g w w' := by
  have hgl := h.lt
  have HX := Lib.hid hx
  have H := Lib.hid (h.below (((Below.refl _ _).alloc (Nat.le_refl _) (.cells #[.int .i64 0, .int .i64 0] 30)) : Below w.heap.size w _))
  have K0 := Lib.hid ((Kg.refl g w).below ((Below.refl _ _).alloc (Nat.le_refl _) (.cells #[.int .i64 0, .int .i64 0] 30)))
  have Z0 := Lib.hid (show ∀ k, k < 2 → (w.alloc (.cells #[.int .i64 0, .int .i64 0] 30)).cell? ⟨w.heap.size, k, none⟩ = some (.int .i64 0) ∧ (w.alloc (.cells #[.int .i64 0, .int .i64 0] 30)).frozen? ⟨w.heap.size, k, none⟩ = false from fun k hk => by
    rcases (by omega : k = 0 ∨ k = 1) with rfl | rfl
    · exact ⟨newcellA rfl rfl, by simp⟩
    · exact ⟨newcellA rfl rfl, by simp⟩)
  clear hx h
  go_enter Try.func37, Try.ntmps37
  go_wp2_with fail
  refine (pick_any g A n cap K xs 401 w0 _ H.out HX.out (by omega) hg (by omega) (by omega)).mono ?_
  rintro e w1 ⟨⟨r1, rfl, a1, a2⟩, hs1, hk1⟩
  have H1 := Lib.hid hs1
  have K1 := Lib.hid (K0.out.trans hk1)
  have Z1 := Lib.hid (show ∀ k, k < 2 → w1.cell? ⟨w.heap.size, k, none⟩ = some (.int .i64 0) ∧ w1.frozen? ⟨w.heap.size, k, none⟩ = false from fun k hk => ⟨(hk1.cell (p := ⟨w.heap.size, k, none⟩) (by simp) (by simp; omega)).trans (Z0.out k hk).1, (hk1.frozen (p := ⟨w.heap.size, k, none⟩) (by simp) (by simp; omega)).trans (Z0.out k hk).2⟩)
  have l1 : w.heap.size < w1.heap.size := by have := hk1.1; simp at this; omega
  clear hs1 hk1 H K0 Z0
  go_wp2_with fail
  refine (one_any g A n cap (K + 2) xs 2 w0 _ H1.out HX.out (by omega) hg (by omega) (by omega)).mono ?_
  rintro e w2 ⟨⟨b, rfl⟩, hs2, hk2⟩
  have H2 := Lib.hid hs2
  have K2 := Lib.hid (K1.out.trans hk2)
  have Z2 := Lib.hid (show ∀ k, k < 2 → w2.cell? ⟨w.heap.size, k, none⟩ = some (.int .i64 0) ∧ w2.frozen? ⟨w.heap.size, k, none⟩ = false from fun k hk => ⟨(hk2.cell (p := ⟨w.heap.size, k, none⟩) l1 (by simp; omega)).trans (Z1.out k hk).1, (hk2.frozen (p := ⟨w.heap.size, k, none⟩) l1 (by simp; omega)).trans (Z1.out k hk).2⟩)
  have l2 : w.heap.size < w2.heap.size := Nat.lt_of_lt_of_le l1 hk2.1
  clear hs2 hk2 H1 K1 Z1
  cases b
  · go_wp2_with fail
    refine (pick_any g A n cap (K + 4) xs 200 w0 _ H2.out HX.out (by omega) hg (by omega) (by omega)).mono ?_
    rintro e w3 ⟨⟨r9, rfl, a3, a4⟩, hs3, hk3⟩
    have H3 := Lib.hid hs3
    have K3 := Lib.hid (K2.out.trans hk3)
    have Z3 := Lib.hid (show ∀ k, k < 2 → w3.cell? ⟨w.heap.size, k, none⟩ = some (.int .i64 0) ∧ w3.frozen? ⟨w.heap.size, k, none⟩ = false from fun k hk => ⟨(hk3.cell (p := ⟨w.heap.size, k, none⟩) l2 (by simp; omega)).trans (Z2.out k hk).1, (hk3.frozen (p := ⟨w.heap.size, k, none⟩) l2 (by simp; omega)).trans (Z2.out k hk).2⟩)
    have l3 : w.heap.size < w3.heap.size := Nat.lt_of_lt_of_le l2 hk3.1
    clear hs3 hk3 H2 K2 Z2
    go_wp2_with fail
    refine (l02Make_any (r1 - 200) (1 + r9) _ (by omega) (by omega) (by omega) (by omega)).mono ?_
    obtain ⟨m1, m2, m3, m4⟩ := make_ok4 (num := r1 - 200) (den := 1 + r9) (by omega) (by omega) (by omega) (by omega)
    generalize (r1 - 200).tdiv (Int.gcd (r1 - 200) (1 + r9) : Nat) = x at *
    generalize (1 + r9).tdiv (Int.gcd (r1 - 200) (1 + r9) : Nat) = y at *
    have HD := Lib.hid (show DrwG x y from ⟨m1, m2, m3, m4⟩)
    clear m1 m2 m3 m4
    rintro e w10 ⟨rfl, hb⟩
    have H10 := Lib.hid (H3.out.below hb)
    have K10 := Lib.hid (K3.out.below hb)
    have z0 : w10.cell? ⟨w.heap.size, 0, none⟩ = some (.int .i64 0) := (hb.cell (p := ⟨w.heap.size, 0, none⟩) l3).trans (Z3.out 0 (by omega)).1
    have z1 : w10.cell? ⟨w.heap.size, 1, none⟩ = some (.int .i64 0) := (hb.cell (p := ⟨w.heap.size, 1, none⟩) l3).trans (Z3.out 1 (by omega)).1
    have f0 : w10.frozen? ⟨w.heap.size, 0, none⟩ = false := (hb.frozen (p := ⟨w.heap.size, 0, none⟩) l3).trans (Z3.out 0 (by omega)).2
    have f1 : w10.frozen? ⟨w.heap.size, 1, none⟩ = false := (hb.frozen (p := ⟨w.heap.size, 1, none⟩) l3).trans (Z3.out 1 (by omega)).2
    clear hb H3 K3 Z3
    go_wp2_with fail
    exact bodyPost_ret (v := .agg #[.int .i64 x, .int .i64 y]) (by simp [results, Try.results37, go_sem, pair_set z0 z1]) rfl ⟨⟨x, y, rfl, HD.out⟩, ((H10.out.set (b := w.heap.size) (by omega) (by have := H10.out.2.size; omega) 0 _).set (b := w.heap.size) (by omega) (by omega) 1 _).mono (by omega), (K10.out.other (Nat.le_refl _) 0 _).other (Nat.le_refl _) 1 _⟩
  · go_wp2_with fail
    refine (pick_any g A n cap (K + 4) xs 201 w0 _ H2.out HX.out (by omega) hg (by omega) (by omega)).mono ?_
    rintro e w3 ⟨⟨r2, rfl, a3, a4⟩, hs3, hk3⟩
    have H3 := Lib.hid hs3
    have K3 := Lib.hid (K2.out.trans hk3)
    have Z3 := Lib.hid (show ∀ k, k < 2 → w3.cell? ⟨w.heap.size, k, none⟩ = some (.int .i64 0) ∧ w3.frozen? ⟨w.heap.size, k, none⟩ = false from fun k hk => ⟨(hk3.cell (p := ⟨w.heap.size, k, none⟩) l2 (by simp; omega)).trans (Z2.out k hk).1, (hk3.frozen (p := ⟨w.heap.size, k, none⟩) l2 (by simp; omega)).trans (Z2.out k hk).2⟩)
    have l3 : w.heap.size < w3.heap.size := Nat.lt_of_lt_of_le l2 hk3.1
    clear hs3 hk3 H2 K2 Z2
    go_wp2_with fail
    refine (pick_any g A n cap (K + 6) xs 200 w0 _ H3.out HX.out (by omega) hg (by omega) (by omega)).mono ?_
    rintro e w4 ⟨⟨r9, rfl, a5, a6⟩, hs4, hk4⟩
    have H4 := Lib.hid hs4
    have K4 := Lib.hid (K3.out.trans hk4)
    have Z4 := Lib.hid (show ∀ k, k < 2 → w4.cell? ⟨w.heap.size, k, none⟩ = some (.int .i64 0) ∧ w4.frozen? ⟨w.heap.size, k, none⟩ = false from fun k hk => ⟨(hk4.cell (p := ⟨w.heap.size, k, none⟩) l3 (by simp; omega)).trans (Z3.out k hk).1, (hk4.frozen (p := ⟨w.heap.size, k, none⟩) l3 (by simp; omega)).trans (Z3.out k hk).2⟩)
    have l4 : w.heap.size < w4.heap.size := Nat.lt_of_lt_of_le l3 hk4.1
    clear hs4 hk4 H3 K3 Z3
    go_wp2_with fail
    refine (l02Make_any r2 (1 + r9) _ (by omega) (by omega) (by omega) (by omega)).mono ?_
    obtain ⟨m1, m2, m3, m4⟩ := make_ok4 (num := r2) (den := 1 + r9) (by omega) (by omega) (by omega) (by omega)
    generalize (r2).tdiv (Int.gcd (r2) (1 + r9) : Nat) = x at *
    generalize (1 + r9).tdiv (Int.gcd (r2) (1 + r9) : Nat) = y at *
    have HD := Lib.hid (show DrwG x y from ⟨m1, m2, m3, m4⟩)
    clear m1 m2 m3 m4
    rintro e w10 ⟨rfl, hb⟩
    have H10 := Lib.hid (H4.out.below hb)
    have K10 := Lib.hid (K4.out.below hb)
    have z0 : w10.cell? ⟨w.heap.size, 0, none⟩ = some (.int .i64 0) := (hb.cell (p := ⟨w.heap.size, 0, none⟩) l4).trans (Z4.out 0 (by omega)).1
    have z1 : w10.cell? ⟨w.heap.size, 1, none⟩ = some (.int .i64 0) := (hb.cell (p := ⟨w.heap.size, 1, none⟩) l4).trans (Z4.out 1 (by omega)).1
    have f0 : w10.frozen? ⟨w.heap.size, 0, none⟩ = false := (hb.frozen (p := ⟨w.heap.size, 0, none⟩) l4).trans (Z4.out 0 (by omega)).2
    have f1 : w10.frozen? ⟨w.heap.size, 1, none⟩ = false := (hb.frozen (p := ⟨w.heap.size, 1, none⟩) l4).trans (Z4.out 1 (by omega)).2
    clear hb H4 K4 Z4
    go_wp2_with fail
    exact bodyPost_ret (v := .agg #[.int .i64 x, .int .i64 y]) (by simp [results, Try.results37, go_sem, pair_set z0 z1]) rfl ⟨⟨x, y, rfl, HD.out⟩, ((H10.out.set (b := w.heap.size) (by omega) (by have := H10.out.2.size; omega) 0 _).set (b := w.heap.size) (by omega) (by omega) 1 _).mono (by omega), (K10.out.other (Nat.le_refl _) 0 _).other (Nat.le_refl _) 1 _⟩

set_option maxHeartbeats 1600000 in
theorem l02Draw_300 (g : Nat) (A : Option Addr) (n cap K : Nat) (xs : List Int) (w0 w : World) (h : St g A n cap K w0 w) (hx : BRow w0 A n xs) (hk : K ≤ 800) (hg : w0.heap.size ≤ g) :
    Calls Try.prog 37 #[.pointer (some ⟨g, 0, none⟩), .int .i64 300] w fun e w' => (∃ x y : Int, e = .returned (.agg #[.int .i64 x, .int .i64 y]) ∧ DrwG x y) ∧ St g A n cap (K + 8) w0 w' ∧ Kg g w w' := by
  have hgl := h.lt
  have HX := Lib.hid hx
  have H := Lib.hid (h.below (((Below.refl _ _).alloc (Nat.le_refl _) (.cells #[.int .i64 0, .int .i64 0] 30)) : Below w.heap.size w _))
  have K0 := Lib.hid ((Kg.refl g w).below ((Below.refl _ _).alloc (Nat.le_refl _) (.cells #[.int .i64 0, .int .i64 0] 30)))
  have Z0 := Lib.hid (show ∀ k, k < 2 → (w.alloc (.cells #[.int .i64 0, .int .i64 0] 30)).cell? ⟨w.heap.size, k, none⟩ = some (.int .i64 0) ∧ (w.alloc (.cells #[.int .i64 0, .int .i64 0] 30)).frozen? ⟨w.heap.size, k, none⟩ = false from fun k hk => by
    rcases (by omega : k = 0 ∨ k = 1) with rfl | rfl
    · exact ⟨newcellA rfl rfl, by simp⟩
    · exact ⟨newcellA rfl rfl, by simp⟩)
  clear hx h
  go_enter Try.func37, Try.ntmps37
  go_wp2_with fail
  refine (pick_any g A n cap K xs 601 w0 _ H.out HX.out (by omega) hg (by omega) (by omega)).mono ?_
  rintro e w1 ⟨⟨r1, rfl, a1, a2⟩, hs1, hk1⟩
  have H1 := Lib.hid hs1
  have K1 := Lib.hid (K0.out.trans hk1)
  have Z1 := Lib.hid (show ∀ k, k < 2 → w1.cell? ⟨w.heap.size, k, none⟩ = some (.int .i64 0) ∧ w1.frozen? ⟨w.heap.size, k, none⟩ = false from fun k hk => ⟨(hk1.cell (p := ⟨w.heap.size, k, none⟩) (by simp) (by simp; omega)).trans (Z0.out k hk).1, (hk1.frozen (p := ⟨w.heap.size, k, none⟩) (by simp) (by simp; omega)).trans (Z0.out k hk).2⟩)
  have l1 : w.heap.size < w1.heap.size := by have := hk1.1; simp at this; omega
  clear hs1 hk1 H K0 Z0
  go_wp2_with fail
  refine (one_any g A n cap (K + 2) xs 2 w0 _ H1.out HX.out (by omega) hg (by omega) (by omega)).mono ?_
  rintro e w2 ⟨⟨b, rfl⟩, hs2, hk2⟩
  have H2 := Lib.hid hs2
  have K2 := Lib.hid (K1.out.trans hk2)
  have Z2 := Lib.hid (show ∀ k, k < 2 → w2.cell? ⟨w.heap.size, k, none⟩ = some (.int .i64 0) ∧ w2.frozen? ⟨w.heap.size, k, none⟩ = false from fun k hk => ⟨(hk2.cell (p := ⟨w.heap.size, k, none⟩) l1 (by simp; omega)).trans (Z1.out k hk).1, (hk2.frozen (p := ⟨w.heap.size, k, none⟩) l1 (by simp; omega)).trans (Z1.out k hk).2⟩)
  have l2 : w.heap.size < w2.heap.size := Nat.lt_of_lt_of_le l1 hk2.1
  clear hs2 hk2 H1 K1 Z1
  cases b
  · go_wp2_with fail
    refine (pick_any g A n cap (K + 4) xs 300 w0 _ H2.out HX.out (by omega) hg (by omega) (by omega)).mono ?_
    rintro e w3 ⟨⟨r9, rfl, a3, a4⟩, hs3, hk3⟩
    have H3 := Lib.hid hs3
    have K3 := Lib.hid (K2.out.trans hk3)
    have Z3 := Lib.hid (show ∀ k, k < 2 → w3.cell? ⟨w.heap.size, k, none⟩ = some (.int .i64 0) ∧ w3.frozen? ⟨w.heap.size, k, none⟩ = false from fun k hk => ⟨(hk3.cell (p := ⟨w.heap.size, k, none⟩) l2 (by simp; omega)).trans (Z2.out k hk).1, (hk3.frozen (p := ⟨w.heap.size, k, none⟩) l2 (by simp; omega)).trans (Z2.out k hk).2⟩)
    have l3 : w.heap.size < w3.heap.size := Nat.lt_of_lt_of_le l2 hk3.1
    clear hs3 hk3 H2 K2 Z2
    go_wp2_with fail
    refine (l02Make_any (r1 - 300) (1 + r9) _ (by omega) (by omega) (by omega) (by omega)).mono ?_
    obtain ⟨m1, m2, m3, m4⟩ := make_ok4 (num := r1 - 300) (den := 1 + r9) (by omega) (by omega) (by omega) (by omega)
    generalize (r1 - 300).tdiv (Int.gcd (r1 - 300) (1 + r9) : Nat) = x at *
    generalize (1 + r9).tdiv (Int.gcd (r1 - 300) (1 + r9) : Nat) = y at *
    have HD := Lib.hid (show DrwG x y from ⟨m1, m2, m3, m4⟩)
    clear m1 m2 m3 m4
    rintro e w10 ⟨rfl, hb⟩
    have H10 := Lib.hid (H3.out.below hb)
    have K10 := Lib.hid (K3.out.below hb)
    have z0 : w10.cell? ⟨w.heap.size, 0, none⟩ = some (.int .i64 0) := (hb.cell (p := ⟨w.heap.size, 0, none⟩) l3).trans (Z3.out 0 (by omega)).1
    have z1 : w10.cell? ⟨w.heap.size, 1, none⟩ = some (.int .i64 0) := (hb.cell (p := ⟨w.heap.size, 1, none⟩) l3).trans (Z3.out 1 (by omega)).1
    have f0 : w10.frozen? ⟨w.heap.size, 0, none⟩ = false := (hb.frozen (p := ⟨w.heap.size, 0, none⟩) l3).trans (Z3.out 0 (by omega)).2
    have f1 : w10.frozen? ⟨w.heap.size, 1, none⟩ = false := (hb.frozen (p := ⟨w.heap.size, 1, none⟩) l3).trans (Z3.out 1 (by omega)).2
    clear hb H3 K3 Z3
    go_wp2_with fail
    exact bodyPost_ret (v := .agg #[.int .i64 x, .int .i64 y]) (by simp [results, Try.results37, go_sem, pair_set z0 z1]) rfl ⟨⟨x, y, rfl, HD.out⟩, ((H10.out.set (b := w.heap.size) (by omega) (by have := H10.out.2.size; omega) 0 _).set (b := w.heap.size) (by omega) (by omega) 1 _).mono (by omega), (K10.out.other (Nat.le_refl _) 0 _).other (Nat.le_refl _) 1 _⟩
  · go_wp2_with fail
    refine (pick_any g A n cap (K + 4) xs 301 w0 _ H2.out HX.out (by omega) hg (by omega) (by omega)).mono ?_
    rintro e w3 ⟨⟨r2, rfl, a3, a4⟩, hs3, hk3⟩
    have H3 := Lib.hid hs3
    have K3 := Lib.hid (K2.out.trans hk3)
    have Z3 := Lib.hid (show ∀ k, k < 2 → w3.cell? ⟨w.heap.size, k, none⟩ = some (.int .i64 0) ∧ w3.frozen? ⟨w.heap.size, k, none⟩ = false from fun k hk => ⟨(hk3.cell (p := ⟨w.heap.size, k, none⟩) l2 (by simp; omega)).trans (Z2.out k hk).1, (hk3.frozen (p := ⟨w.heap.size, k, none⟩) l2 (by simp; omega)).trans (Z2.out k hk).2⟩)
    have l3 : w.heap.size < w3.heap.size := Nat.lt_of_lt_of_le l2 hk3.1
    clear hs3 hk3 H2 K2 Z2
    go_wp2_with fail
    refine (pick_any g A n cap (K + 6) xs 300 w0 _ H3.out HX.out (by omega) hg (by omega) (by omega)).mono ?_
    rintro e w4 ⟨⟨r9, rfl, a5, a6⟩, hs4, hk4⟩
    have H4 := Lib.hid hs4
    have K4 := Lib.hid (K3.out.trans hk4)
    have Z4 := Lib.hid (show ∀ k, k < 2 → w4.cell? ⟨w.heap.size, k, none⟩ = some (.int .i64 0) ∧ w4.frozen? ⟨w.heap.size, k, none⟩ = false from fun k hk => ⟨(hk4.cell (p := ⟨w.heap.size, k, none⟩) l3 (by simp; omega)).trans (Z3.out k hk).1, (hk4.frozen (p := ⟨w.heap.size, k, none⟩) l3 (by simp; omega)).trans (Z3.out k hk).2⟩)
    have l4 : w.heap.size < w4.heap.size := Nat.lt_of_lt_of_le l3 hk4.1
    clear hs4 hk4 H3 K3 Z3
    go_wp2_with fail
    refine (l02Make_any r2 (1 + r9) _ (by omega) (by omega) (by omega) (by omega)).mono ?_
    obtain ⟨m1, m2, m3, m4⟩ := make_ok4 (num := r2) (den := 1 + r9) (by omega) (by omega) (by omega) (by omega)
    generalize (r2).tdiv (Int.gcd (r2) (1 + r9) : Nat) = x at *
    generalize (1 + r9).tdiv (Int.gcd (r2) (1 + r9) : Nat) = y at *
    have HD := Lib.hid (show DrwG x y from ⟨m1, m2, m3, m4⟩)
    clear m1 m2 m3 m4
    rintro e w10 ⟨rfl, hb⟩
    have H10 := Lib.hid (H4.out.below hb)
    have K10 := Lib.hid (K4.out.below hb)
    have z0 : w10.cell? ⟨w.heap.size, 0, none⟩ = some (.int .i64 0) := (hb.cell (p := ⟨w.heap.size, 0, none⟩) l4).trans (Z4.out 0 (by omega)).1
    have z1 : w10.cell? ⟨w.heap.size, 1, none⟩ = some (.int .i64 0) := (hb.cell (p := ⟨w.heap.size, 1, none⟩) l4).trans (Z4.out 1 (by omega)).1
    have f0 : w10.frozen? ⟨w.heap.size, 0, none⟩ = false := (hb.frozen (p := ⟨w.heap.size, 0, none⟩) l4).trans (Z4.out 0 (by omega)).2
    have f1 : w10.frozen? ⟨w.heap.size, 1, none⟩ = false := (hb.frozen (p := ⟨w.heap.size, 1, none⟩) l4).trans (Z4.out 1 (by omega)).2
    clear hb H4 K4 Z4
    go_wp2_with fail
    exact bodyPost_ret (v := .agg #[.int .i64 x, .int .i64 y]) (by simp [results, Try.results37, go_sem, pair_set z0 z1]) rfl ⟨⟨x, y, rfl, HD.out⟩, ((H10.out.set (b := w.heap.size) (by omega) (by have := H10.out.2.size; omega) 0 _).set (b := w.heap.size) (by omega) (by omega) 1 _).mono (by omega), (K10.out.other (Nat.le_refl _) 0 _).other (Nat.le_refl _) 1 _⟩

set_option maxHeartbeats 1600000 in
theorem l02Draw_400 (g : Nat) (A : Option Addr) (n cap K : Nat) (xs : List Int) (w0 w : World) (h : St g A n cap K w0 w) (hx : BRow w0 A n xs) (hk : K ≤ 800) (hg : w0.heap.size ≤ g) :
    Calls Try.prog 37 #[.pointer (some ⟨g, 0, none⟩), .int .i64 400] w fun e w' => (∃ x y : Int, e = .returned (.agg #[.int .i64 x, .int .i64 y]) ∧ DrwG x y) ∧ St g A n cap (K + 8) w0 w' ∧ Kg g w w' := by
  have hgl := h.lt
  have HX := Lib.hid hx
  have H := Lib.hid (h.below (((Below.refl _ _).alloc (Nat.le_refl _) (.cells #[.int .i64 0, .int .i64 0] 30)) : Below w.heap.size w _))
  have K0 := Lib.hid ((Kg.refl g w).below ((Below.refl _ _).alloc (Nat.le_refl _) (.cells #[.int .i64 0, .int .i64 0] 30)))
  have Z0 := Lib.hid (show ∀ k, k < 2 → (w.alloc (.cells #[.int .i64 0, .int .i64 0] 30)).cell? ⟨w.heap.size, k, none⟩ = some (.int .i64 0) ∧ (w.alloc (.cells #[.int .i64 0, .int .i64 0] 30)).frozen? ⟨w.heap.size, k, none⟩ = false from fun k hk => by
    rcases (by omega : k = 0 ∨ k = 1) with rfl | rfl
    · exact ⟨newcellA rfl rfl, by simp⟩
    · exact ⟨newcellA rfl rfl, by simp⟩)
  clear hx h
  go_enter Try.func37, Try.ntmps37
  go_wp2_with fail
  refine (pick_any g A n cap K xs 801 w0 _ H.out HX.out (by omega) hg (by omega) (by omega)).mono ?_
  rintro e w1 ⟨⟨r1, rfl, a1, a2⟩, hs1, hk1⟩
  have H1 := Lib.hid hs1
  have K1 := Lib.hid (K0.out.trans hk1)
  have Z1 := Lib.hid (show ∀ k, k < 2 → w1.cell? ⟨w.heap.size, k, none⟩ = some (.int .i64 0) ∧ w1.frozen? ⟨w.heap.size, k, none⟩ = false from fun k hk => ⟨(hk1.cell (p := ⟨w.heap.size, k, none⟩) (by simp) (by simp; omega)).trans (Z0.out k hk).1, (hk1.frozen (p := ⟨w.heap.size, k, none⟩) (by simp) (by simp; omega)).trans (Z0.out k hk).2⟩)
  have l1 : w.heap.size < w1.heap.size := by have := hk1.1; simp at this; omega
  clear hs1 hk1 H K0 Z0
  go_wp2_with fail
  refine (one_any g A n cap (K + 2) xs 2 w0 _ H1.out HX.out (by omega) hg (by omega) (by omega)).mono ?_
  rintro e w2 ⟨⟨b, rfl⟩, hs2, hk2⟩
  have H2 := Lib.hid hs2
  have K2 := Lib.hid (K1.out.trans hk2)
  have Z2 := Lib.hid (show ∀ k, k < 2 → w2.cell? ⟨w.heap.size, k, none⟩ = some (.int .i64 0) ∧ w2.frozen? ⟨w.heap.size, k, none⟩ = false from fun k hk => ⟨(hk2.cell (p := ⟨w.heap.size, k, none⟩) l1 (by simp; omega)).trans (Z1.out k hk).1, (hk2.frozen (p := ⟨w.heap.size, k, none⟩) l1 (by simp; omega)).trans (Z1.out k hk).2⟩)
  have l2 : w.heap.size < w2.heap.size := Nat.lt_of_lt_of_le l1 hk2.1
  clear hs2 hk2 H1 K1 Z1
  cases b
  · go_wp2_with fail
    refine (pick_any g A n cap (K + 4) xs 400 w0 _ H2.out HX.out (by omega) hg (by omega) (by omega)).mono ?_
    rintro e w3 ⟨⟨r9, rfl, a3, a4⟩, hs3, hk3⟩
    have H3 := Lib.hid hs3
    have K3 := Lib.hid (K2.out.trans hk3)
    have Z3 := Lib.hid (show ∀ k, k < 2 → w3.cell? ⟨w.heap.size, k, none⟩ = some (.int .i64 0) ∧ w3.frozen? ⟨w.heap.size, k, none⟩ = false from fun k hk => ⟨(hk3.cell (p := ⟨w.heap.size, k, none⟩) l2 (by simp; omega)).trans (Z2.out k hk).1, (hk3.frozen (p := ⟨w.heap.size, k, none⟩) l2 (by simp; omega)).trans (Z2.out k hk).2⟩)
    have l3 : w.heap.size < w3.heap.size := Nat.lt_of_lt_of_le l2 hk3.1
    clear hs3 hk3 H2 K2 Z2
    go_wp2_with fail
    refine (l02Make_any (r1 - 400) (1 + r9) _ (by omega) (by omega) (by omega) (by omega)).mono ?_
    obtain ⟨m1, m2, m3, m4⟩ := make_ok4 (num := r1 - 400) (den := 1 + r9) (by omega) (by omega) (by omega) (by omega)
    generalize (r1 - 400).tdiv (Int.gcd (r1 - 400) (1 + r9) : Nat) = x at *
    generalize (1 + r9).tdiv (Int.gcd (r1 - 400) (1 + r9) : Nat) = y at *
    have HD := Lib.hid (show DrwG x y from ⟨m1, m2, m3, m4⟩)
    clear m1 m2 m3 m4
    rintro e w10 ⟨rfl, hb⟩
    have H10 := Lib.hid (H3.out.below hb)
    have K10 := Lib.hid (K3.out.below hb)
    have z0 : w10.cell? ⟨w.heap.size, 0, none⟩ = some (.int .i64 0) := (hb.cell (p := ⟨w.heap.size, 0, none⟩) l3).trans (Z3.out 0 (by omega)).1
    have z1 : w10.cell? ⟨w.heap.size, 1, none⟩ = some (.int .i64 0) := (hb.cell (p := ⟨w.heap.size, 1, none⟩) l3).trans (Z3.out 1 (by omega)).1
    have f0 : w10.frozen? ⟨w.heap.size, 0, none⟩ = false := (hb.frozen (p := ⟨w.heap.size, 0, none⟩) l3).trans (Z3.out 0 (by omega)).2
    have f1 : w10.frozen? ⟨w.heap.size, 1, none⟩ = false := (hb.frozen (p := ⟨w.heap.size, 1, none⟩) l3).trans (Z3.out 1 (by omega)).2
    clear hb H3 K3 Z3
    go_wp2_with fail
    exact bodyPost_ret (v := .agg #[.int .i64 x, .int .i64 y]) (by simp [results, Try.results37, go_sem, pair_set z0 z1]) rfl ⟨⟨x, y, rfl, HD.out⟩, ((H10.out.set (b := w.heap.size) (by omega) (by have := H10.out.2.size; omega) 0 _).set (b := w.heap.size) (by omega) (by omega) 1 _).mono (by omega), (K10.out.other (Nat.le_refl _) 0 _).other (Nat.le_refl _) 1 _⟩
  · go_wp2_with fail
    refine (pick_any g A n cap (K + 4) xs 401 w0 _ H2.out HX.out (by omega) hg (by omega) (by omega)).mono ?_
    rintro e w3 ⟨⟨r2, rfl, a3, a4⟩, hs3, hk3⟩
    have H3 := Lib.hid hs3
    have K3 := Lib.hid (K2.out.trans hk3)
    have Z3 := Lib.hid (show ∀ k, k < 2 → w3.cell? ⟨w.heap.size, k, none⟩ = some (.int .i64 0) ∧ w3.frozen? ⟨w.heap.size, k, none⟩ = false from fun k hk => ⟨(hk3.cell (p := ⟨w.heap.size, k, none⟩) l2 (by simp; omega)).trans (Z2.out k hk).1, (hk3.frozen (p := ⟨w.heap.size, k, none⟩) l2 (by simp; omega)).trans (Z2.out k hk).2⟩)
    have l3 : w.heap.size < w3.heap.size := Nat.lt_of_lt_of_le l2 hk3.1
    clear hs3 hk3 H2 K2 Z2
    go_wp2_with fail
    refine (pick_any g A n cap (K + 6) xs 400 w0 _ H3.out HX.out (by omega) hg (by omega) (by omega)).mono ?_
    rintro e w4 ⟨⟨r9, rfl, a5, a6⟩, hs4, hk4⟩
    have H4 := Lib.hid hs4
    have K4 := Lib.hid (K3.out.trans hk4)
    have Z4 := Lib.hid (show ∀ k, k < 2 → w4.cell? ⟨w.heap.size, k, none⟩ = some (.int .i64 0) ∧ w4.frozen? ⟨w.heap.size, k, none⟩ = false from fun k hk => ⟨(hk4.cell (p := ⟨w.heap.size, k, none⟩) l3 (by simp; omega)).trans (Z3.out k hk).1, (hk4.frozen (p := ⟨w.heap.size, k, none⟩) l3 (by simp; omega)).trans (Z3.out k hk).2⟩)
    have l4 : w.heap.size < w4.heap.size := Nat.lt_of_lt_of_le l3 hk4.1
    clear hs4 hk4 H3 K3 Z3
    go_wp2_with fail
    refine (l02Make_any r2 (1 + r9) _ (by omega) (by omega) (by omega) (by omega)).mono ?_
    obtain ⟨m1, m2, m3, m4⟩ := make_ok4 (num := r2) (den := 1 + r9) (by omega) (by omega) (by omega) (by omega)
    generalize (r2).tdiv (Int.gcd (r2) (1 + r9) : Nat) = x at *
    generalize (1 + r9).tdiv (Int.gcd (r2) (1 + r9) : Nat) = y at *
    have HD := Lib.hid (show DrwG x y from ⟨m1, m2, m3, m4⟩)
    clear m1 m2 m3 m4
    rintro e w10 ⟨rfl, hb⟩
    have H10 := Lib.hid (H4.out.below hb)
    have K10 := Lib.hid (K4.out.below hb)
    have z0 : w10.cell? ⟨w.heap.size, 0, none⟩ = some (.int .i64 0) := (hb.cell (p := ⟨w.heap.size, 0, none⟩) l4).trans (Z4.out 0 (by omega)).1
    have z1 : w10.cell? ⟨w.heap.size, 1, none⟩ = some (.int .i64 0) := (hb.cell (p := ⟨w.heap.size, 1, none⟩) l4).trans (Z4.out 1 (by omega)).1
    have f0 : w10.frozen? ⟨w.heap.size, 0, none⟩ = false := (hb.frozen (p := ⟨w.heap.size, 0, none⟩) l4).trans (Z4.out 0 (by omega)).2
    have f1 : w10.frozen? ⟨w.heap.size, 1, none⟩ = false := (hb.frozen (p := ⟨w.heap.size, 1, none⟩) l4).trans (Z4.out 1 (by omega)).2
    clear hb H4 K4 Z4
    go_wp2_with fail
    exact bodyPost_ret (v := .agg #[.int .i64 x, .int .i64 y]) (by simp [results, Try.results37, go_sem, pair_set z0 z1]) rfl ⟨⟨x, y, rfl, HD.out⟩, ((H10.out.set (b := w.heap.size) (by omega) (by have := H10.out.2.size; omega) 0 _).set (b := w.heap.size) (by omega) (by omega) 1 _).mono (by omega), (K10.out.other (Nat.le_refl _) 0 _).other (Nat.le_refl _) 1 _⟩

theorem IRow.kg {g : Nat} {w w' : World} {B : Option Addr} {m : Nat} {zs : List Int} (h : IRow w B m zs) (hk : Kg g w w') (hB : ∀ ad, B = some ad → ad.block ≠ g) : IRow w' B m zs :=
  ⟨h.1, h.2.1, h.2.2.1, h.2.2.2.keep fun p u hu ⟨ad, e, hp⟩ => (hk.cell (World.block_lt_of_cell? w p hu) (by rw [hp]; exact hB ad e)).trans hu⟩
theorem among_any (g : Nat) (A : Option Addr) (n cap K : Nat) (xs : List Int) (B : Option Addr) (m c : Nat) (zs : List Int) (w0 w : World) (h : St g A n cap K w0 w) (hx : BRow w0 A n xs) (hk : K ≤ 900) (hg : w0.heap.size ≤ g) (h1 : 1 ≤ m) (h2 : m ≤ 100)
    (hr : IRow w B m zs) (hB : ∀ ad, B = some ad → ad.block ≠ g) :
    Calls Try.prog 39 #[.pointer (some ⟨g, 0, none⟩), .slice B m c] w fun e w' => (∃ z : Int, e = .returned (.int .i64 z) ∧ z ∈ zs ∧ Rng z) ∧ St g A n cap (K + 2) w0 w' ∧ Kg g w w' := by
  have HP := Lib.hid (pick_any g A n cap K xs m w0 w h hx hk hg (by omega) (by omega))
  have HR := Lib.hid hr
  have HB := Lib.hid hB
  clear h hx hr hB
  go_enter Try.func39, Try.ntmps39
  go_wp2_with fail
  refine HP.out.mono ?_
  rintro e w1 ⟨⟨r, rfl, r0, r1⟩, hs1, hk1⟩
  obtain ⟨q, rfl⟩ := Int.eq_ofNat_of_zero_le r0
  obtain ⟨ad, z, rfl, hz, z1, z2, hc⟩ := (HR.out.kg hk1 HB.out).at_ (k := q) (by omega)
  have HZ := Lib.hid (List.mem_of_getElem? hz)
  have H1 := Lib.hid hs1
  have K1 := Lib.hid hk1
  clear hs1 hk1 hz
  go_wp2_with fail
  go_ret
  exact ⟨⟨z, rfl, HZ.out, by unfold Rng; omega⟩, H1.out, K1.out⟩
theorem irow_new (w : World) (zs : List Int) (cs : Array Value) (t : TypeId) (n : Nat) (hn : zs.length = n) (hc : cs.toList = zs.map (Value.int .i64)) (hb : n ≤ 9223372036854775807) (hr : ∀ z ∈ zs, Rng z) : IRow (w.alloc (.cells cs t)) (some ⟨w.heap.size, 0, none⟩) n zs :=
  ⟨hn, hb, hr, fun j u hu => ⟨_, rfl, newcell rfl (by rw [hc]; exact hu)⟩⟩
theorem Pr.set_other {w : World} {b c : Nat} {x y : Int} (h : Pr w b x y) (hne : c ≠ b) (o : Nat) (v : Value) : Pr (w.setCell ⟨c, o, none⟩ v) b x y := by
  have e : ∀ j, (⟨c, o, none⟩ : Addr) ≠ ⟨b, j, none⟩ := fun j e => by injection e with e; exact hne e
  exact ⟨setO (e 0) h.1, setO (e 1) h.2.1, setF h.2.2.1, setF h.2.2.2⟩
theorem Pr.set0 {w : World} {b : Nat} {x y : Int} (h : Pr w b x y) (u : Int) : Pr (w.setCell ⟨b, 0, none⟩ (.int .i64 u)) b u y :=
  ⟨setS h.1, setO (by simp) h.2.1, setF h.2.2.1, setF h.2.2.2⟩
theorem Pr.set1 {w : World} {b : Nat} {x y : Int} (h : Pr w b x y) (u : Int) : Pr (w.setCell ⟨b, 1, none⟩ (.int .i64 u)) b x u :=
  ⟨setO (by simp) h.1, setS h.2.1, setF h.2.2.1, setF h.2.2.2⟩
theorem Kg.grown {g : Nat} {w w1 w2 : World} {row : Option Nat} (h : Kg g w w1) (hg : w1.grownBy w2 row) (hr : ∀ k, row = some k → w.heap.size ≤ k) : Kg g w w2 := by
  refine ⟨Nat.le_trans h.1 hg.size, fun i hi hne => ?_⟩
  rw [← h.2 i hi hne]
  exact hg.block i (Nat.lt_of_lt_of_le hi h.1) (fun e => by have := hr i e.symm; omega)
theorem Kg.alloc {g : Nat} {w w1 : World} (h : Kg g w w1) (o : Obj) : Kg g w (w1.alloc o) := h.below ((Below.refl _ _).alloc (Nat.le_refl _) o)
theorem rng_all {l : List Int} (h : l.all (fun z => decide (-9223372036854775808 ≤ z) && decide (z ≤ 9223372036854775807)) = true) : ∀ z ∈ l, Rng z := fun z hz => by
  have := List.all_eq_true.1 h z hz
  simpa [Rng] using this
theorem l04DrawKind_any (g : Nat) (A : Option Addr) (n cap K : Nat) (xs : List Int) (w0 w : World) (h : St g A n cap K w0 w) (hx : BRow w0 A n xs) (hk : K ≤ 800) (hg : w0.heap.size ≤ g) :
    Calls Try.prog 40 #[.pointer (some ⟨g, 0, none⟩)] w fun e w' => (∃ z : Int, e = .returned (.int .i64 z) ∧ Rng z) ∧ St g A n cap (K + 4) w0 w' ∧ Kg g w w' := by
  have HX := Lib.hid hx
  have H := Lib.hid h
  have hgl := h.lt
  clear hx h
  go_enter Try.func40, Try.ntmps40
  go_wp2_with fail
  refine (one_any g A n cap K xs 12 w0 w H.out HX.out (by omega) hg (by omega) (by omega)).mono ?_
  rintro e w1 ⟨⟨b, rfl⟩, hs1, hk1⟩
  have hl1 := hs1.lt
  have H1 := Lib.hid hs1
  have K1 := Lib.hid hk1
  clear hs1 hk1 H
  cases b
  · go_wp2_with fail
    refine (pick_any g A n cap (K + 2) xs 4 w0 w1 H1.out HX.out (by omega) hg (by omega) (by omega)).mono ?_
    rintro e w2 ⟨⟨r, rfl, r0, r1⟩, hs2, hk2⟩
    have H2 := Lib.hid hs2
    have K2 := Lib.hid (K1.out.trans hk2)
    clear hs2 hk2 H1 K1
    go_wp2_with fail
    go_ret
    exact ⟨⟨_, rfl, by unfold Rng; omega⟩, H2.out, K2.out⟩
  · go_wp2_with fail
    refine (among_any g A n cap (K + 2) xs (some ⟨w1.heap.size, 0, none⟩) 3 3 [0, 5, -9223372036854775808] w0 _ (H1.out.alloc _) HX.out (by omega) hg (by omega) (by omega) (irow_new w1 _ _ _ 3 rfl rfl (by omega) (rng_all (by decide))) (fun ad h => by injection h with h; subst h; simp; omega)).mono ?_
    rintro e w2 ⟨⟨z, rfl, _, hz⟩, hs2, hk2⟩
    have H2 := Lib.hid hs2
    have K2 := Lib.hid ((K1.out.alloc _).trans hk2)
    have HZ := Lib.hid hz
    clear hs2 hk2 H1 K1 hz
    go_wp2_with fail
    go_ret
    exact ⟨⟨_, rfl, HZ.out⟩, H2.out, K2.out⟩
set_option maxRecDepth 100000 in
set_option maxHeartbeats 3200000 in
theorem l02Bent_any (g : Nat) (A : Option Addr) (n cap K : Nat) (xs : List Int) (w0 w : World) (h : St g A n cap K w0 w) (hx : BRow w0 A n xs) (hk : K ≤ 600) (hg : w0.heap.size ≤ g) :
    Calls Try.prog 32 #[.pointer (some ⟨g, 0, none⟩)] w fun e w' => (∃ x y : Int, e = .returned (.agg #[.int .i64 x, .int .i64 y]) ∧ Rng x ∧ Rng y) ∧ St g A n cap (K + 20) w0 w' ∧ Kg g w w' := by
  have hgl := h.lt
  have hsz := h.2.size
  have HX := Lib.hid hx
  have H := Lib.hid (h.alloc (.cells #[.int .i64 0, .int .i64 0] 30))
  have K0 := Lib.hid ((Kg.refl g w).alloc (.cells #[.int .i64 0, .int .i64 0] 30))
  have Z0 := Lib.hid (Pr.new w 0 0 30)
  clear hx h
  go_enter Try.func32, Try.ntmps32
  go_wp2_with fail
  refine (l02Draw_300 g A n cap K xs w0 _ H.out HX.out (by omega) hg).mono ?_
  rintro e w1 ⟨⟨x, y, rfl, hd⟩, hs1, hk1⟩
  have hg1 := hs1.lt
  have l1 : w.heap.size < w1.heap.size := by have := hk1.1; simp at this; omega
  have H1 := Lib.hid (hs1.alloc (.cells #[.int .i64 x, .int .i64 y] 30))
  have K1 := Lib.hid ((K0.out.trans hk1).alloc (.cells #[.int .i64 x, .int .i64 y] 30))
  have Z1 := Lib.hid ((Z0.out.kg hk1 (by omega)).below ((Below.refl _ _).alloc (Nat.le_refl _) (.cells #[.int .i64 x, .int .i64 y] 30)))
  have F1 := Lib.hid (Pr.new w1 x y 30)
  have hxy : Rng x ∧ Rng y := by
    have := vfB_iff.1 hd.1
    unfold Rng; omega
  have HXY := Lib.hid hxy
  clear hs1 hk1 H K0 Z0 hd hxy
  go_wp2_with fail
  refine (pick_any g A n cap (K + 8) xs 20 w0 _ H1.out HX.out (by omega) hg (by omega) (by omega)).mono ?_
  rintro e w2 ⟨⟨r, rfl, r0, r1⟩, hs2, hk2⟩
  have hg2 := hs2.lt
  have l2 : w1.heap.size < w2.heap.size := by have := hk2.1; simp at this; omega
  have H2 := Lib.hid hs2
  have K2 := Lib.hid (K1.out.trans hk2)
  have Z2 := Lib.hid (Z1.out.kg hk2 (by omega))
  have F2 := Lib.hid (F1.out.kg hk2 (by omega))
  clear hs2 hk2 H1 K1 Z1 F1
  rcases (by omega : r = 0 ∨ r = 1 ∨ r = 2 ∨ r = 3 ∨ (r ≠ 0 ∧ r ≠ 1 ∧ r ≠ 2 ∧ r ≠ 3)) with rfl | rfl | rfl | rfl | ⟨q0, q1, q2, q3⟩
  · go_wp2_with fail
    refine (among_any g A n cap (K + 10) xs (some ⟨w2.heap.size, 0, none⟩) 5 5 [-1000000001, -1000000000, 1000000000, 1000000001, -9223372036854775808] w0 _ (H2.out.alloc _) HX.out (by omega) hg (by omega) (by omega) (irow_new w2 _ _ _ 5 rfl rfl (by omega) (rng_all (by decide))) (fun ad h => by injection h with h; subst h; simp; omega)).mono ?_
    rintro e w3 ⟨⟨z, rfl, _, hz⟩, hs3, hk3⟩
    have hA : Below w2.heap.size w2 (w2.alloc (.cells #[.int .i64 (-1000000001), .int .i64 (-1000000000), .int .i64 1000000000, .int .i64 1000000001, .int .i64 (-9223372036854775808)] 2)) := (Below.refl _ _).alloc (Nat.le_refl _) _
    have H3 := Lib.hid hs3
    have K3 := Lib.hid ((K2.out.below hA).trans hk3)
    have Z3 := Lib.hid ((Z2.out.below hA).kg hk3 (by omega))
    have F3 := Lib.hid ((F2.out.below hA).kg hk3 (by omega))
    have HZ := Lib.hid hz
    clear hs3 hk3 hA H2 K2 Z2 F2 hz
    obtain ⟨z0, z1, zf0, zf1⟩ := Z3.out
    obtain ⟨f0, f1, ff0, ff1⟩ := F3.out
    go_wp2_with fail
    exact bodyPost_ret (v := .agg #[.int .i64 z, .int .i64 y]) (by simp [results, Try.results32, go_sem, pair_set (Z3.out.set_other (c := w1.heap.size) (by omega) 0 (.int .i64 z)).1 (Z3.out.set_other (c := w1.heap.size) (by omega) 0 (.int .i64 z)).2.1]) rfl ⟨⟨_, _, rfl, HZ.out, HXY.out.2⟩, (((H3.out.set (b := w1.heap.size) (by omega) (by omega) 0 _).set (b := w.heap.size) (by omega) (by omega) 0 _).set (b := w.heap.size) (by omega) (by omega) 1 _).mono (by omega), (((K3.out.other (b := w1.heap.size) (by omega) 0 _).other (b := w.heap.size) (Nat.le_refl _) 0 _).other (b := w.heap.size) (Nat.le_refl _) 1 _)⟩
  · go_wp2_with fail
    refine (among_any g A n cap (K + 10) xs (some ⟨w2.heap.size, 0, none⟩) 6 6 [-1, 0, 1, 1000000000, 1000000001, 9223372036854775807] w0 _ (H2.out.alloc _) HX.out (by omega) hg (by omega) (by omega) (irow_new w2 _ _ _ 6 rfl rfl (by omega) (rng_all (by decide))) (fun ad h => by injection h with h; subst h; simp; omega)).mono ?_
    rintro e w3 ⟨⟨z, rfl, _, hz⟩, hs3, hk3⟩
    have hA : Below w2.heap.size w2 (w2.alloc (.cells #[.int .i64 (-1), .int .i64 0, .int .i64 1, .int .i64 1000000000, .int .i64 1000000001, .int .i64 9223372036854775807] 2)) := (Below.refl _ _).alloc (Nat.le_refl _) _
    have H3 := Lib.hid hs3
    have K3 := Lib.hid ((K2.out.below hA).trans hk3)
    have Z3 := Lib.hid ((Z2.out.below hA).kg hk3 (by omega))
    have F3 := Lib.hid ((F2.out.below hA).kg hk3 (by omega))
    have HZ := Lib.hid hz
    clear hs3 hk3 hA H2 K2 Z2 F2 hz
    obtain ⟨z0, z1, zf0, zf1⟩ := Z3.out
    obtain ⟨f0, f1, ff0, ff1⟩ := F3.out
    go_wp2_with fail
    exact bodyPost_ret (v := .agg #[.int .i64 x, .int .i64 z]) (by simp [results, Try.results32, go_sem, pair_set (Z3.out.set_other (c := w1.heap.size) (by omega) 1 (.int .i64 z)).1 (Z3.out.set_other (c := w1.heap.size) (by omega) 1 (.int .i64 z)).2.1]) rfl ⟨⟨_, _, rfl, HXY.out.1, HZ.out⟩, (((H3.out.set (b := w1.heap.size) (by omega) (by omega) 1 _).set (b := w.heap.size) (by omega) (by omega) 0 _).set (b := w.heap.size) (by omega) (by omega) 1 _).mono (by omega), (((K3.out.other (b := w1.heap.size) (by omega) 1 _).other (b := w.heap.size) (Nat.le_refl _) 0 _).other (b := w.heap.size) (Nat.le_refl _) 1 _)⟩
  · obtain ⟨z0, z1, zf0, zf1⟩ := Z2.out
    go_wp2_with fail
    exact bodyPost_ret (v := .agg #[.int .i64 2, .int .i64 4]) (by simp [results, Try.results32, go_sem, pair_set Z2.out.1 Z2.out.2.1]) rfl ⟨⟨_, _, rfl, (by unfold Rng; omega), (by unfold Rng; omega)⟩, ((H2.out.set (b := w.heap.size) (by omega) (by omega) 0 _).set (b := w.heap.size) (by omega) (by omega) 1 _).mono (by omega), ((K2.out.other (b := w.heap.size) (Nat.le_refl _) 0 _).other (b := w.heap.size) (Nat.le_refl _) 1 _)⟩
  · go_wp2_with fail
    refine (pick_any g A n cap (K + 10) xs 5 w0 _ H2.out HX.out (by omega) hg (by omega) (by omega)).mono ?_
    rintro e w3 ⟨⟨s, rfl, s0, s1⟩, hs3, hk3⟩
    have H3 := Lib.hid hs3
    have K3 := Lib.hid (K2.out.trans hk3)
    have Z3 := Lib.hid (Z2.out.kg hk3 (by omega))
    have F3 := Lib.hid (F2.out.kg hk3 (by omega))
    clear hs3 hk3 H2 K2 Z2 F2
    go_wp2_with fail
    refine (pick_any g A n cap (K + 12) xs 5 w0 _ H3.out HX.out (by omega) hg (by omega) (by omega)).mono ?_
    rintro e w4 ⟨⟨t, rfl, t0, t1⟩, hs4, hk4⟩
    have H4 := Lib.hid hs4
    have K4 := Lib.hid (K3.out.trans hk4)
    have Z4 := Lib.hid (Z3.out.kg hk4 (by omega))
    have F4 := Lib.hid (F3.out.kg hk4 (by omega))
    clear hs4 hk4 H3 K3 Z3 F3
    go_wp2_with fail
    refine (l02Make_any (1000000000 - s) (1000000000 - t) _ (by omega) (by omega) (by omega) (by omega)).mono ?_
    have b1 := tdiv_bd (1000000000 - s) (Int.gcd (1000000000 - s) (1000000000 - t) : Nat)
    have b2 := tdiv_bd (1000000000 - t) (Int.gcd (1000000000 - s) (1000000000 - t) : Nat)
    generalize (1000000000 - s).tdiv (Int.gcd (1000000000 - s) (1000000000 - t) : Nat) = p at *
    generalize (1000000000 - t).tdiv (Int.gcd (1000000000 - s) (1000000000 - t) : Nat) = q at *
    have HPQ := Lib.hid (show Rng p ∧ Rng q by unfold Rng; omega)
    clear b1 b2
    rintro e w5 ⟨rfl, hb⟩
    have H5 := Lib.hid (H4.out.below hb)
    have K5 := Lib.hid (K4.out.below hb)
    have Z5 := Lib.hid (Z4.out.below hb)
    have F5 := Lib.hid (F4.out.below hb)
    clear hb H4 K4 Z4 F4
    obtain ⟨z0, z1, zf0, zf1⟩ := Z5.out
    obtain ⟨f0, f1, ff0, ff1⟩ := F5.out
    go_wp2_with fail
    exact bodyPost_ret (v := .agg #[.int .i64 p, .int .i64 q]) (by simp [results, Try.results32, go_sem, pair_set ((Z5.out.set_other (c := w1.heap.size) (by omega) 0 (.int .i64 p)).set_other (c := w1.heap.size) (by omega) 1 (.int .i64 q)).1 ((Z5.out.set_other (c := w1.heap.size) (by omega) 0 (.int .i64 p)).set_other (c := w1.heap.size) (by omega) 1 (.int .i64 q)).2.1]) rfl ⟨⟨_, _, rfl, HPQ.out.1, HPQ.out.2⟩, ((((H5.out.set (b := w1.heap.size) (by omega) (by omega) 0 _).set (b := w1.heap.size) (by omega) (by omega) 1 _).set (b := w.heap.size) (by omega) (by omega) 0 _).set (b := w.heap.size) (by omega) (by omega) 1 _).mono (by omega), ((((K5.out.other (b := w1.heap.size) (by omega) 0 _).other (b := w1.heap.size) (by omega) 1 _).other (b := w.heap.size) (Nat.le_refl _) 0 _).other (b := w.heap.size) (Nat.le_refl _) 1 _)⟩
  · have e0 : (r == 0) = false := beq_eq_false_iff_ne.2 q0
    have e1 : (r == 1) = false := beq_eq_false_iff_ne.2 q1
    have e2 : (r == 2) = false := beq_eq_false_iff_ne.2 q2
    have e3 : (r == 3) = false := beq_eq_false_iff_ne.2 q3
    obtain ⟨z0, z1, zf0, zf1⟩ := Z2.out
    obtain ⟨f0, f1, ff0, ff1⟩ := F2.out
    go_wp2_with fail
    exact bodyPost_ret (v := .agg #[.int .i64 x, .int .i64 y]) (by simp [results, Try.results32, go_sem, pair_set Z2.out.1 Z2.out.2.1]) rfl ⟨⟨_, _, rfl, HXY.out.1, HXY.out.2⟩, ((H2.out.set (b := w.heap.size) (by omega) (by omega) 0 _).set (b := w.heap.size) (by omega) (by omega) 1 _).mono (by omega), ((K2.out.other (b := w.heap.size) (Nat.le_refl _) 0 _).other (b := w.heap.size) (Nat.le_refl _) 1 _)⟩
end Go.Proofs.Ytlpglibnjmjjkaa
