/-
  The walks of the laws on two fractions: sum, difference, product, mediant.
  No condition but those of the laws' own texts.
-/
import Derived.Test.YtikdahbjfehhdaaProg
import Derived.Test.YtikdahbjfehhdaaMem
import Derived.Test.YtikdahbjfehhdaaBasic
import Derived.Test.YtikdahbjfehhdaaFrac
import Derived.Test.YtikdahbjfehhdaaVfrac
import Derived.Test.YtikdahbjfehhdaaFrac2
import Derived.Test.YtikdahbjfehhdaaFrac3
import Derived.Test.YtikdahbjfehhdaaLaw2
import Derived.Handy
import Derived.BigQuiet
import Derived.Deep.QuietTactic
import Derived.Deep.RegionHeld3
import Derived.Deep.DrawnRows
import Derived.Deep.DeepCutAuto
namespace Go.Proofs.Ytikdahbjfehhdaa
open Go.RowKit
set_option linter.unusedVariables false
attribute [local go_sem ↓] Go.wp_at_zero Go.wp_at_succ

set_option maxHeartbeats 6400000 in
theorem fnExactAddFractions_walk (p q : Int) (_ : -9223372036854775808 ≤ p) (_ : p ≤ 9223372036854775807) (_ : -9223372036854775808 ≤ q) (_ : q ≤ 9223372036854775807)
    (r s : Int) (_ : -9223372036854775808 ≤ r) (_ : r ≤ 9223372036854775807) (_ : -9223372036854775808 ≤ s) (_ : s ≤ 9223372036854775807) (w : World) :
    Calls Try.prog 9 #[.agg #[.int .i64 p, .int .i64 q], .agg #[.int .i64 r, .int .i64 s]] w fun e w' => e = .returned (.bool true) ∧ Below w.heap.size w w' := by
  obtain ⟨x, y, c, HS, HI⟩ : ∃ x y c, Hid (∀ w, Calls Try.prog 37 #[.agg #[.int .i64 p, .int .i64 q], .agg #[.int .i64 r, .int .i64 s]] w fun e w' => e = .returned (.tuple #[.agg #[.int .i64 x, .int .i64 y], .int .i64 c]) ∧ Below w.heap.size w w') ∧
      Hid (∀ w, Calls Try.prog 38 #[.agg #[.int .i64 p, .int .i64 q], .agg #[.int .i64 r, .int .i64 s]] w fun e w' => e = .returned (.tuple #[.agg #[.int .i64 x, .int .i64 y], .int .i64 c]) ∧ Below w.heap.size w w') :=
    ⟨_, _, _, fun w => specAdd_any p q r s w, fun w => implAdd_any p q r s w⟩
  go_enter Try.func9, Try.ntmps9
  go_upto_region 1 with fail
  obtain ⟨t1, t2, t3, t4, hB0, hl0⟩ := two_start w p q r s 23 23
  have hsz0 : ((w.alloc (.cells #[.int .i64 p, .int .i64 q] 23)).alloc (.cells #[.int .i64 r, .int .i64 s] 23)).heap.size = w.heap.size + 2 := by simp
  generalize (w.alloc (.cells #[.int .i64 p, .int .i64 q] 23)).alloc (.cells #[.int .i64 r, .int .i64 s] 23) = B at t1 t2 t3 t4 hB0 hl0 hsz0 ⊢
  have H0 := Lib.hid (show B.cell? ⟨w.heap.size, 0, none⟩ = some (.int .i64 p) ∧ B.cell? ⟨w.heap.size, 1, none⟩ = some (.int .i64 q) ∧ B.cell? ⟨w.heap.size + 1, 0, none⟩ = some (.int .i64 r) ∧ B.cell? ⟨w.heap.size + 1, 1, none⟩ = some (.int .i64 s) from ⟨t1, t2, t3, t4⟩)
  have HZ := Lib.hid hsz0
  clear t1 t2 t3 t4 hsz0 hl0
  go_cut [5, 6] (fun v5 v6 wx => ∃ g : Nat, v5 = .pointer (some ⟨g, 0, none⟩) ∧ v6 = .int .i64 c ∧ wx.cell? ⟨g, 0, none⟩ = some (.int .i64 x) ∧ wx.cell? ⟨g, 1, none⟩ = some (.int .i64 y) ∧ Below B.heap.size B wx)
  case first =>
    go_region_held3 (fun w' => w'.cell? ⟨w.heap.size, 0, none⟩ = some (.int .i64 p) ∧ w'.cell? ⟨w.heap.size, 1, none⟩ = some (.int .i64 q) ∧ w'.cell? ⟨w.heap.size + 1, 0, none⟩ = some (.int .i64 r) ∧ w'.cell? ⟨w.heap.size + 1, 1, none⟩ = some (.int .i64 s) ∧ Below B.heap.size B w')
      (first | exact ext_of H0.out (ext_call (ext_b (by assumption)) hb) | exact ext_of H0.out (ext_first hb) | exact ext_of H0.out (ext_call ((Below.refl _ _).drew.alloc (by simp) _) hb) | exact ext_of H0.out ((Below.refl _ _).drew) | exact ext_of H0.out (Below.alloc (ext_b (by assumption)) (ext_le (ext_b (by assumption))) _) | exact ext_of H0.out ((Below.refl _ _).drew.alloc (by simp) _) | exact ext_of H0.out (ext_swap (ext_b (by assumption)) (by omega) _) | exact ext_of H0.out (ext_set2 (ext_b (by assumption)) (by omega) _ _))
      (first | (go_at_call 16; refine (toFraction_any _ _ _).mono ?_; rintro e w1 ⟨rfl, hb⟩; obtain ⟨hcc, hff, _⟩ := keepc hb; have hz := keepr hb; have hq := hb.size; (try simp only [World.size_drew] at hq); (try simp only [World.size_alloc] at hq); (try have hq2 := Nat.lt_of_succ_le hq); (try have e0 : w1.cell? ⟨B.heap.size, 0, none⟩ = some (.int .i64 0) := by (rw [hcc _ _ (by (try simp only [World.size_drew]); (try simp only [World.size_alloc]); omega)]; simp [go_sem])); (try have e1 : w1.cell? ⟨B.heap.size, 1, none⟩ = some (.int .i64 0) := by (rw [hcc _ _ (by (try simp only [World.size_drew]); (try simp only [World.size_alloc]); omega)]; simp [go_sem]))) | (go_at_call 37; refine (HS.out _).mono ?_; rintro e w1 ⟨rfl, hb⟩; obtain ⟨hcc, hff, _⟩ := keepc hb; have hz := keepr hb; have hq := hb.size; (try simp only [World.size_drew] at hq); (try simp only [World.size_alloc] at hq); (try have hq2 := Nat.lt_of_succ_le hq); (try have e0 : w1.cell? ⟨B.heap.size, 0, none⟩ = some (.int .i64 0) := by (rw [hcc _ _ (by (try simp only [World.size_drew]); (try simp only [World.size_alloc]); omega)]; simp [go_sem])); (try have e1 : w1.cell? ⟨B.heap.size, 1, none⟩ = some (.int .i64 0) := by (rw [hcc _ _ (by (try simp only [World.size_drew]); (try simp only [World.size_alloc]); omega)]; simp [go_sem]))))
    all_goals go_wp2_with fail
    all_goals go_meet
    all_goals refine ⟨_, rfl, rfl, ?_, ?_, ext_b (by assumption)⟩
    all_goals (first | (simp [go_sem, *]; done) | (refine (pair_set (x := .int .i64 0) (y := .int .i64 0) ?_ ?_ _ _).2.1 <;> (simp [*]; (try simp [go_sem]); done)) | (refine (pair_set (x := .int .i64 0) (y := .int .i64 0) ?_ ?_ _ _).2.2 <;> (simp [*]; (try simp [go_sem]); done)))
  case rest =>
    obtain ⟨g, rfl, rfl, hx, hy, hb1⟩ := hcut
    have h1 := ext_of H0.out hb1
    clear H0
    have H0 := Lib.hid (show wc.cell? ⟨w.heap.size, 0, none⟩ = some (.int .i64 p) ∧ wc.cell? ⟨w.heap.size, 1, none⟩ = some (.int .i64 q) ∧ wc.cell? ⟨w.heap.size + 1, 0, none⟩ = some (.int .i64 r) ∧ wc.cell? ⟨w.heap.size + 1, 1, none⟩ = some (.int .i64 s) from ⟨h1.1, h1.2.1, h1.2.2.1, h1.2.2.2.1⟩)
    have hB1 : Below w.heap.size w wc := hB0.trans (hb1.mono hB0.size)
    have HX := Lib.hid hx
    have HY := Lib.hid hy
    clear h1 hb1 hB0 HZ hx hy
    obtain ⟨w0, hw0⟩ : ∃ w0 : World, w0 = wc := ⟨_, rfl⟩
    subst hw0
    go_upto_region 2 with fail
    go_cut [7, 8] (fun v7 v8 wx => ∃ g' : Nat, v7 = .pointer (some ⟨g', 0, none⟩) ∧ v8 = .int .i64 c ∧ wx.cell? ⟨g', 0, none⟩ = some (.int .i64 x) ∧ wx.cell? ⟨g', 1, none⟩ = some (.int .i64 y) ∧ Below w0.heap.size w0 wx)
    case first =>
      go_region_held3 (fun w' => w'.cell? ⟨w.heap.size, 0, none⟩ = some (.int .i64 p) ∧ w'.cell? ⟨w.heap.size, 1, none⟩ = some (.int .i64 q) ∧ w'.cell? ⟨w.heap.size + 1, 0, none⟩ = some (.int .i64 r) ∧ w'.cell? ⟨w.heap.size + 1, 1, none⟩ = some (.int .i64 s) ∧ Below w0.heap.size w0 w')
        (first | exact ext_of H0.out (ext_call (ext_b (by assumption)) hb) | exact ext_of H0.out (ext_first hb) | exact ext_of H0.out (ext_call ((Below.refl _ _).drew.alloc (by simp) _) hb) | exact ext_of H0.out ((Below.refl _ _).drew) | exact ext_of H0.out (Below.alloc (ext_b (by assumption)) (ext_le (ext_b (by assumption))) _) | exact ext_of H0.out ((Below.refl _ _).drew.alloc (by simp) _) | exact ext_of H0.out (ext_swap (ext_b (by assumption)) (by omega) _) | exact ext_of H0.out (ext_set2 (ext_b (by assumption)) (by omega) _ _))
        (first | (go_at_call 16; refine (toFraction_any _ _ _).mono ?_; rintro e w1 ⟨rfl, hb⟩; obtain ⟨hcc, hff, _⟩ := keepc hb; have hz := keepr hb; have hq := hb.size; (try simp only [World.size_drew] at hq); (try simp only [World.size_alloc] at hq); (try have hq2 := Nat.lt_of_succ_le hq); (try have e0 : w1.cell? ⟨w0.heap.size, 0, none⟩ = some (.int .i64 0) := by (rw [hcc _ _ (by (try simp only [World.size_drew]); (try simp only [World.size_alloc]); omega)]; simp [go_sem])); (try have e1 : w1.cell? ⟨w0.heap.size, 1, none⟩ = some (.int .i64 0) := by (rw [hcc _ _ (by (try simp only [World.size_drew]); (try simp only [World.size_alloc]); omega)]; simp [go_sem]))) | (go_at_call 38; refine (HI.out _).mono ?_; rintro e w1 ⟨rfl, hb⟩; obtain ⟨hcc, hff, _⟩ := keepc hb; have hz := keepr hb; have hq := hb.size; (try simp only [World.size_drew] at hq); (try simp only [World.size_alloc] at hq); (try have hq2 := Nat.lt_of_succ_le hq); (try have e0 : w1.cell? ⟨w0.heap.size, 0, none⟩ = some (.int .i64 0) := by (rw [hcc _ _ (by (try simp only [World.size_drew]); (try simp only [World.size_alloc]); omega)]; simp [go_sem])); (try have e1 : w1.cell? ⟨w0.heap.size, 1, none⟩ = some (.int .i64 0) := by (rw [hcc _ _ (by (try simp only [World.size_drew]); (try simp only [World.size_alloc]); omega)]; simp [go_sem]))))
      all_goals go_wp2_with fail
      all_goals go_meet
      all_goals refine ⟨_, rfl, rfl, ?_, ?_, ext_b (by assumption)⟩
      all_goals (first | (simp [go_sem, *]; done) | (refine (pair_set (x := .int .i64 0) (y := .int .i64 0) ?_ ?_ _ _).2.1 <;> (simp [*]; (try simp [go_sem]); done)) | (refine (pair_set (x := .int .i64 0) (y := .int .i64 0) ?_ ?_ _ _).2.2 <;> (simp [*]; (try simp [go_sem]); done)))
    case rest =>
      obtain ⟨g', rfl, rfl, hx', hy', hb2⟩ := hcut
      have hx2 : wc.cell? ⟨g, 0, none⟩ = some (.int .i64 x) := (hb2.cell (World.block_lt_of_cell? w0 ⟨g, 0, none⟩ HX.out)).trans HX.out
      have hy2 : wc.cell? ⟨g, 1, none⟩ = some (.int .i64 y) := (hb2.cell (World.block_lt_of_cell? w0 ⟨g, 1, none⟩ HY.out)).trans HY.out
      have hB2 : Below w.heap.size w wc := hB1.trans (hb2.mono hB1.size)
      clear hb2 hB1 H0
      go_wp2_with fail
      refine (eqFraction_same x y _).mono ?_
      rintro e w3 ⟨rfl, hb3⟩
      go_wp2_with fail
      go_ret
      exact ⟨rfl, hB2.trans (hb3.mono hB2.size)⟩
set_option maxHeartbeats 6400000 in
theorem fnExactSubFractions_walk (p q : Int) (_ : -9223372036854775808 ≤ p) (_ : p ≤ 9223372036854775807) (_ : -9223372036854775808 ≤ q) (_ : q ≤ 9223372036854775807)
    (r s : Int) (_ : -9223372036854775808 ≤ r) (_ : r ≤ 9223372036854775807) (_ : -9223372036854775808 ≤ s) (_ : s ≤ 9223372036854775807) (w : World) :
    Calls Try.prog 12 #[.agg #[.int .i64 p, .int .i64 q], .agg #[.int .i64 r, .int .i64 s]] w fun e w' => e = .returned (.bool true) ∧ Below w.heap.size w w' := by
  obtain ⟨x, y, c, HS, HI⟩ : ∃ x y c, Hid (∀ w, Calls Try.prog 43 #[.agg #[.int .i64 p, .int .i64 q], .agg #[.int .i64 r, .int .i64 s]] w fun e w' => e = .returned (.tuple #[.agg #[.int .i64 x, .int .i64 y], .int .i64 c]) ∧ Below w.heap.size w w') ∧
      Hid (∀ w, Calls Try.prog 44 #[.agg #[.int .i64 p, .int .i64 q], .agg #[.int .i64 r, .int .i64 s]] w fun e w' => e = .returned (.tuple #[.agg #[.int .i64 x, .int .i64 y], .int .i64 c]) ∧ Below w.heap.size w w') :=
    ⟨_, _, _, fun w => specSub_any p q r s w, fun w => implSub_any p q r s w⟩
  go_enter Try.func12, Try.ntmps12
  go_upto_region 1 with fail
  obtain ⟨t1, t2, t3, t4, hB0, hl0⟩ := two_start w p q r s 23 23
  have hsz0 : ((w.alloc (.cells #[.int .i64 p, .int .i64 q] 23)).alloc (.cells #[.int .i64 r, .int .i64 s] 23)).heap.size = w.heap.size + 2 := by simp
  generalize (w.alloc (.cells #[.int .i64 p, .int .i64 q] 23)).alloc (.cells #[.int .i64 r, .int .i64 s] 23) = B at t1 t2 t3 t4 hB0 hl0 hsz0 ⊢
  have H0 := Lib.hid (show B.cell? ⟨w.heap.size, 0, none⟩ = some (.int .i64 p) ∧ B.cell? ⟨w.heap.size, 1, none⟩ = some (.int .i64 q) ∧ B.cell? ⟨w.heap.size + 1, 0, none⟩ = some (.int .i64 r) ∧ B.cell? ⟨w.heap.size + 1, 1, none⟩ = some (.int .i64 s) from ⟨t1, t2, t3, t4⟩)
  have HZ := Lib.hid hsz0
  clear t1 t2 t3 t4 hsz0 hl0
  go_cut [5, 6] (fun v5 v6 wx => ∃ g : Nat, v5 = .pointer (some ⟨g, 0, none⟩) ∧ v6 = .int .i64 c ∧ wx.cell? ⟨g, 0, none⟩ = some (.int .i64 x) ∧ wx.cell? ⟨g, 1, none⟩ = some (.int .i64 y) ∧ Below B.heap.size B wx)
  case first =>
    go_region_held3 (fun w' => w'.cell? ⟨w.heap.size, 0, none⟩ = some (.int .i64 p) ∧ w'.cell? ⟨w.heap.size, 1, none⟩ = some (.int .i64 q) ∧ w'.cell? ⟨w.heap.size + 1, 0, none⟩ = some (.int .i64 r) ∧ w'.cell? ⟨w.heap.size + 1, 1, none⟩ = some (.int .i64 s) ∧ Below B.heap.size B w')
      (first | exact ext_of H0.out (ext_call (ext_b (by assumption)) hb) | exact ext_of H0.out (ext_first hb) | exact ext_of H0.out (ext_call ((Below.refl _ _).drew.alloc (by simp) _) hb) | exact ext_of H0.out ((Below.refl _ _).drew) | exact ext_of H0.out (Below.alloc (ext_b (by assumption)) (ext_le (ext_b (by assumption))) _) | exact ext_of H0.out ((Below.refl _ _).drew.alloc (by simp) _) | exact ext_of H0.out (ext_swap (ext_b (by assumption)) (by omega) _) | exact ext_of H0.out (ext_set2 (ext_b (by assumption)) (by omega) _ _))
      (first | (go_at_call 16; refine (toFraction_any _ _ _).mono ?_; rintro e w1 ⟨rfl, hb⟩; obtain ⟨hcc, hff, _⟩ := keepc hb; have hz := keepr hb; have hq := hb.size; (try simp only [World.size_drew] at hq); (try simp only [World.size_alloc] at hq); (try have hq2 := Nat.lt_of_succ_le hq); (try have e0 : w1.cell? ⟨B.heap.size, 0, none⟩ = some (.int .i64 0) := by (rw [hcc _ _ (by (try simp only [World.size_drew]); (try simp only [World.size_alloc]); omega)]; simp [go_sem])); (try have e1 : w1.cell? ⟨B.heap.size, 1, none⟩ = some (.int .i64 0) := by (rw [hcc _ _ (by (try simp only [World.size_drew]); (try simp only [World.size_alloc]); omega)]; simp [go_sem]))) | (go_at_call 43; refine (HS.out _).mono ?_; rintro e w1 ⟨rfl, hb⟩; obtain ⟨hcc, hff, _⟩ := keepc hb; have hz := keepr hb; have hq := hb.size; (try simp only [World.size_drew] at hq); (try simp only [World.size_alloc] at hq); (try have hq2 := Nat.lt_of_succ_le hq); (try have e0 : w1.cell? ⟨B.heap.size, 0, none⟩ = some (.int .i64 0) := by (rw [hcc _ _ (by (try simp only [World.size_drew]); (try simp only [World.size_alloc]); omega)]; simp [go_sem])); (try have e1 : w1.cell? ⟨B.heap.size, 1, none⟩ = some (.int .i64 0) := by (rw [hcc _ _ (by (try simp only [World.size_drew]); (try simp only [World.size_alloc]); omega)]; simp [go_sem]))))
    all_goals go_wp2_with fail
    all_goals go_meet
    all_goals refine ⟨_, rfl, rfl, ?_, ?_, ext_b (by assumption)⟩
    all_goals (first | (simp [go_sem, *]; done) | (refine (pair_set (x := .int .i64 0) (y := .int .i64 0) ?_ ?_ _ _).2.1 <;> (simp [*]; (try simp [go_sem]); done)) | (refine (pair_set (x := .int .i64 0) (y := .int .i64 0) ?_ ?_ _ _).2.2 <;> (simp [*]; (try simp [go_sem]); done)))
  case rest =>
    obtain ⟨g, rfl, rfl, hx, hy, hb1⟩ := hcut
    have h1 := ext_of H0.out hb1
    clear H0
    have H0 := Lib.hid (show wc.cell? ⟨w.heap.size, 0, none⟩ = some (.int .i64 p) ∧ wc.cell? ⟨w.heap.size, 1, none⟩ = some (.int .i64 q) ∧ wc.cell? ⟨w.heap.size + 1, 0, none⟩ = some (.int .i64 r) ∧ wc.cell? ⟨w.heap.size + 1, 1, none⟩ = some (.int .i64 s) from ⟨h1.1, h1.2.1, h1.2.2.1, h1.2.2.2.1⟩)
    have hB1 : Below w.heap.size w wc := hB0.trans (hb1.mono hB0.size)
    have HX := Lib.hid hx
    have HY := Lib.hid hy
    clear h1 hb1 hB0 HZ hx hy
    obtain ⟨w0, hw0⟩ : ∃ w0 : World, w0 = wc := ⟨_, rfl⟩
    subst hw0
    go_upto_region 2 with fail
    go_cut [7, 8] (fun v7 v8 wx => ∃ g' : Nat, v7 = .pointer (some ⟨g', 0, none⟩) ∧ v8 = .int .i64 c ∧ wx.cell? ⟨g', 0, none⟩ = some (.int .i64 x) ∧ wx.cell? ⟨g', 1, none⟩ = some (.int .i64 y) ∧ Below w0.heap.size w0 wx)
    case first =>
      go_region_held3 (fun w' => w'.cell? ⟨w.heap.size, 0, none⟩ = some (.int .i64 p) ∧ w'.cell? ⟨w.heap.size, 1, none⟩ = some (.int .i64 q) ∧ w'.cell? ⟨w.heap.size + 1, 0, none⟩ = some (.int .i64 r) ∧ w'.cell? ⟨w.heap.size + 1, 1, none⟩ = some (.int .i64 s) ∧ Below w0.heap.size w0 w')
        (first | exact ext_of H0.out (ext_call (ext_b (by assumption)) hb) | exact ext_of H0.out (ext_first hb) | exact ext_of H0.out (ext_call ((Below.refl _ _).drew.alloc (by simp) _) hb) | exact ext_of H0.out ((Below.refl _ _).drew) | exact ext_of H0.out (Below.alloc (ext_b (by assumption)) (ext_le (ext_b (by assumption))) _) | exact ext_of H0.out ((Below.refl _ _).drew.alloc (by simp) _) | exact ext_of H0.out (ext_swap (ext_b (by assumption)) (by omega) _) | exact ext_of H0.out (ext_set2 (ext_b (by assumption)) (by omega) _ _))
        (first | (go_at_call 16; refine (toFraction_any _ _ _).mono ?_; rintro e w1 ⟨rfl, hb⟩; obtain ⟨hcc, hff, _⟩ := keepc hb; have hz := keepr hb; have hq := hb.size; (try simp only [World.size_drew] at hq); (try simp only [World.size_alloc] at hq); (try have hq2 := Nat.lt_of_succ_le hq); (try have e0 : w1.cell? ⟨w0.heap.size, 0, none⟩ = some (.int .i64 0) := by (rw [hcc _ _ (by (try simp only [World.size_drew]); (try simp only [World.size_alloc]); omega)]; simp [go_sem])); (try have e1 : w1.cell? ⟨w0.heap.size, 1, none⟩ = some (.int .i64 0) := by (rw [hcc _ _ (by (try simp only [World.size_drew]); (try simp only [World.size_alloc]); omega)]; simp [go_sem]))) | (go_at_call 44; refine (HI.out _).mono ?_; rintro e w1 ⟨rfl, hb⟩; obtain ⟨hcc, hff, _⟩ := keepc hb; have hz := keepr hb; have hq := hb.size; (try simp only [World.size_drew] at hq); (try simp only [World.size_alloc] at hq); (try have hq2 := Nat.lt_of_succ_le hq); (try have e0 : w1.cell? ⟨w0.heap.size, 0, none⟩ = some (.int .i64 0) := by (rw [hcc _ _ (by (try simp only [World.size_drew]); (try simp only [World.size_alloc]); omega)]; simp [go_sem])); (try have e1 : w1.cell? ⟨w0.heap.size, 1, none⟩ = some (.int .i64 0) := by (rw [hcc _ _ (by (try simp only [World.size_drew]); (try simp only [World.size_alloc]); omega)]; simp [go_sem]))))
      all_goals go_wp2_with fail
      all_goals go_meet
      all_goals refine ⟨_, rfl, rfl, ?_, ?_, ext_b (by assumption)⟩
      all_goals (first | (simp [go_sem, *]; done) | (refine (pair_set (x := .int .i64 0) (y := .int .i64 0) ?_ ?_ _ _).2.1 <;> (simp [*]; (try simp [go_sem]); done)) | (refine (pair_set (x := .int .i64 0) (y := .int .i64 0) ?_ ?_ _ _).2.2 <;> (simp [*]; (try simp [go_sem]); done)))
    case rest =>
      obtain ⟨g', rfl, rfl, hx', hy', hb2⟩ := hcut
      have hx2 : wc.cell? ⟨g, 0, none⟩ = some (.int .i64 x) := (hb2.cell (World.block_lt_of_cell? w0 ⟨g, 0, none⟩ HX.out)).trans HX.out
      have hy2 : wc.cell? ⟨g, 1, none⟩ = some (.int .i64 y) := (hb2.cell (World.block_lt_of_cell? w0 ⟨g, 1, none⟩ HY.out)).trans HY.out
      have hB2 : Below w.heap.size w wc := hB1.trans (hb2.mono hB1.size)
      clear hb2 hB1 H0
      go_wp2_with fail
      refine (eqFraction_same x y _).mono ?_
      rintro e w3 ⟨rfl, hb3⟩
      go_wp2_with fail
      go_ret
      exact ⟨rfl, hB2.trans (hb3.mono hB2.size)⟩
set_option maxHeartbeats 6400000 in
theorem fnExactMulFractions_walk (p q : Int) (_ : -9223372036854775808 ≤ p) (_ : p ≤ 9223372036854775807) (_ : -9223372036854775808 ≤ q) (_ : q ≤ 9223372036854775807)
    (r s : Int) (_ : -9223372036854775808 ≤ r) (_ : r ≤ 9223372036854775807) (_ : -9223372036854775808 ≤ s) (_ : s ≤ 9223372036854775807) (w : World) :
    Calls Try.prog 11 #[.agg #[.int .i64 p, .int .i64 q], .agg #[.int .i64 r, .int .i64 s]] w fun e w' => e = .returned (.bool true) ∧ Below w.heap.size w w' := by
  obtain ⟨x, y, c, HS, HI⟩ : ∃ x y c, Hid (∀ w, Calls Try.prog 41 #[.agg #[.int .i64 p, .int .i64 q], .agg #[.int .i64 r, .int .i64 s]] w fun e w' => e = .returned (.tuple #[.agg #[.int .i64 x, .int .i64 y], .int .i64 c]) ∧ Below w.heap.size w w') ∧
      Hid (∀ w, Calls Try.prog 42 #[.agg #[.int .i64 p, .int .i64 q], .agg #[.int .i64 r, .int .i64 s]] w fun e w' => e = .returned (.tuple #[.agg #[.int .i64 x, .int .i64 y], .int .i64 c]) ∧ Below w.heap.size w w') :=
    ⟨_, _, _, fun w => specMul_any p q r s w, fun w => implMul_any p q r s w⟩
  go_enter Try.func11, Try.ntmps11
  go_upto_region 1 with fail
  obtain ⟨t1, t2, t3, t4, hB0, hl0⟩ := two_start w p q r s 23 23
  have hsz0 : ((w.alloc (.cells #[.int .i64 p, .int .i64 q] 23)).alloc (.cells #[.int .i64 r, .int .i64 s] 23)).heap.size = w.heap.size + 2 := by simp
  generalize (w.alloc (.cells #[.int .i64 p, .int .i64 q] 23)).alloc (.cells #[.int .i64 r, .int .i64 s] 23) = B at t1 t2 t3 t4 hB0 hl0 hsz0 ⊢
  have H0 := Lib.hid (show B.cell? ⟨w.heap.size, 0, none⟩ = some (.int .i64 p) ∧ B.cell? ⟨w.heap.size, 1, none⟩ = some (.int .i64 q) ∧ B.cell? ⟨w.heap.size + 1, 0, none⟩ = some (.int .i64 r) ∧ B.cell? ⟨w.heap.size + 1, 1, none⟩ = some (.int .i64 s) from ⟨t1, t2, t3, t4⟩)
  have HZ := Lib.hid hsz0
  clear t1 t2 t3 t4 hsz0 hl0
  go_cut [5, 6] (fun v5 v6 wx => ∃ g : Nat, v5 = .pointer (some ⟨g, 0, none⟩) ∧ v6 = .int .i64 c ∧ wx.cell? ⟨g, 0, none⟩ = some (.int .i64 x) ∧ wx.cell? ⟨g, 1, none⟩ = some (.int .i64 y) ∧ Below B.heap.size B wx)
  case first =>
    go_region_held3 (fun w' => w'.cell? ⟨w.heap.size, 0, none⟩ = some (.int .i64 p) ∧ w'.cell? ⟨w.heap.size, 1, none⟩ = some (.int .i64 q) ∧ w'.cell? ⟨w.heap.size + 1, 0, none⟩ = some (.int .i64 r) ∧ w'.cell? ⟨w.heap.size + 1, 1, none⟩ = some (.int .i64 s) ∧ Below B.heap.size B w')
      (first | exact ext_of H0.out (ext_call (ext_b (by assumption)) hb) | exact ext_of H0.out (ext_first hb) | exact ext_of H0.out (ext_call ((Below.refl _ _).drew.alloc (by simp) _) hb) | exact ext_of H0.out ((Below.refl _ _).drew) | exact ext_of H0.out (Below.alloc (ext_b (by assumption)) (ext_le (ext_b (by assumption))) _) | exact ext_of H0.out ((Below.refl _ _).drew.alloc (by simp) _) | exact ext_of H0.out (ext_swap (ext_b (by assumption)) (by omega) _) | exact ext_of H0.out (ext_set2 (ext_b (by assumption)) (by omega) _ _))
      (first | (go_at_call 16; refine (toFraction_any _ _ _).mono ?_; rintro e w1 ⟨rfl, hb⟩; obtain ⟨hcc, hff, _⟩ := keepc hb; have hz := keepr hb; have hq := hb.size; (try simp only [World.size_drew] at hq); (try simp only [World.size_alloc] at hq); (try have hq2 := Nat.lt_of_succ_le hq); (try have e0 : w1.cell? ⟨B.heap.size, 0, none⟩ = some (.int .i64 0) := by (rw [hcc _ _ (by (try simp only [World.size_drew]); (try simp only [World.size_alloc]); omega)]; simp [go_sem])); (try have e1 : w1.cell? ⟨B.heap.size, 1, none⟩ = some (.int .i64 0) := by (rw [hcc _ _ (by (try simp only [World.size_drew]); (try simp only [World.size_alloc]); omega)]; simp [go_sem]))) | (go_at_call 41; refine (HS.out _).mono ?_; rintro e w1 ⟨rfl, hb⟩; obtain ⟨hcc, hff, _⟩ := keepc hb; have hz := keepr hb; have hq := hb.size; (try simp only [World.size_drew] at hq); (try simp only [World.size_alloc] at hq); (try have hq2 := Nat.lt_of_succ_le hq); (try have e0 : w1.cell? ⟨B.heap.size, 0, none⟩ = some (.int .i64 0) := by (rw [hcc _ _ (by (try simp only [World.size_drew]); (try simp only [World.size_alloc]); omega)]; simp [go_sem])); (try have e1 : w1.cell? ⟨B.heap.size, 1, none⟩ = some (.int .i64 0) := by (rw [hcc _ _ (by (try simp only [World.size_drew]); (try simp only [World.size_alloc]); omega)]; simp [go_sem]))))
    all_goals go_wp2_with fail
    all_goals go_meet
    all_goals refine ⟨_, rfl, rfl, ?_, ?_, ext_b (by assumption)⟩
    all_goals (first | (simp [go_sem, *]; done) | (refine (pair_set (x := .int .i64 0) (y := .int .i64 0) ?_ ?_ _ _).2.1 <;> (simp [*]; (try simp [go_sem]); done)) | (refine (pair_set (x := .int .i64 0) (y := .int .i64 0) ?_ ?_ _ _).2.2 <;> (simp [*]; (try simp [go_sem]); done)))
  case rest =>
    obtain ⟨g, rfl, rfl, hx, hy, hb1⟩ := hcut
    have h1 := ext_of H0.out hb1
    clear H0
    have H0 := Lib.hid (show wc.cell? ⟨w.heap.size, 0, none⟩ = some (.int .i64 p) ∧ wc.cell? ⟨w.heap.size, 1, none⟩ = some (.int .i64 q) ∧ wc.cell? ⟨w.heap.size + 1, 0, none⟩ = some (.int .i64 r) ∧ wc.cell? ⟨w.heap.size + 1, 1, none⟩ = some (.int .i64 s) from ⟨h1.1, h1.2.1, h1.2.2.1, h1.2.2.2.1⟩)
    have hB1 : Below w.heap.size w wc := hB0.trans (hb1.mono hB0.size)
    have HX := Lib.hid hx
    have HY := Lib.hid hy
    clear h1 hb1 hB0 HZ hx hy
    obtain ⟨w0, hw0⟩ : ∃ w0 : World, w0 = wc := ⟨_, rfl⟩
    subst hw0
    go_upto_region 2 with fail
    go_cut [7, 8] (fun v7 v8 wx => ∃ g' : Nat, v7 = .pointer (some ⟨g', 0, none⟩) ∧ v8 = .int .i64 c ∧ wx.cell? ⟨g', 0, none⟩ = some (.int .i64 x) ∧ wx.cell? ⟨g', 1, none⟩ = some (.int .i64 y) ∧ Below w0.heap.size w0 wx)
    case first =>
      go_region_held3 (fun w' => w'.cell? ⟨w.heap.size, 0, none⟩ = some (.int .i64 p) ∧ w'.cell? ⟨w.heap.size, 1, none⟩ = some (.int .i64 q) ∧ w'.cell? ⟨w.heap.size + 1, 0, none⟩ = some (.int .i64 r) ∧ w'.cell? ⟨w.heap.size + 1, 1, none⟩ = some (.int .i64 s) ∧ Below w0.heap.size w0 w')
        (first | exact ext_of H0.out (ext_call (ext_b (by assumption)) hb) | exact ext_of H0.out (ext_first hb) | exact ext_of H0.out (ext_call ((Below.refl _ _).drew.alloc (by simp) _) hb) | exact ext_of H0.out ((Below.refl _ _).drew) | exact ext_of H0.out (Below.alloc (ext_b (by assumption)) (ext_le (ext_b (by assumption))) _) | exact ext_of H0.out ((Below.refl _ _).drew.alloc (by simp) _) | exact ext_of H0.out (ext_swap (ext_b (by assumption)) (by omega) _) | exact ext_of H0.out (ext_set2 (ext_b (by assumption)) (by omega) _ _))
        (first | (go_at_call 16; refine (toFraction_any _ _ _).mono ?_; rintro e w1 ⟨rfl, hb⟩; obtain ⟨hcc, hff, _⟩ := keepc hb; have hz := keepr hb; have hq := hb.size; (try simp only [World.size_drew] at hq); (try simp only [World.size_alloc] at hq); (try have hq2 := Nat.lt_of_succ_le hq); (try have e0 : w1.cell? ⟨w0.heap.size, 0, none⟩ = some (.int .i64 0) := by (rw [hcc _ _ (by (try simp only [World.size_drew]); (try simp only [World.size_alloc]); omega)]; simp [go_sem])); (try have e1 : w1.cell? ⟨w0.heap.size, 1, none⟩ = some (.int .i64 0) := by (rw [hcc _ _ (by (try simp only [World.size_drew]); (try simp only [World.size_alloc]); omega)]; simp [go_sem]))) | (go_at_call 42; refine (HI.out _).mono ?_; rintro e w1 ⟨rfl, hb⟩; obtain ⟨hcc, hff, _⟩ := keepc hb; have hz := keepr hb; have hq := hb.size; (try simp only [World.size_drew] at hq); (try simp only [World.size_alloc] at hq); (try have hq2 := Nat.lt_of_succ_le hq); (try have e0 : w1.cell? ⟨w0.heap.size, 0, none⟩ = some (.int .i64 0) := by (rw [hcc _ _ (by (try simp only [World.size_drew]); (try simp only [World.size_alloc]); omega)]; simp [go_sem])); (try have e1 : w1.cell? ⟨w0.heap.size, 1, none⟩ = some (.int .i64 0) := by (rw [hcc _ _ (by (try simp only [World.size_drew]); (try simp only [World.size_alloc]); omega)]; simp [go_sem]))))
      all_goals go_wp2_with fail
      all_goals go_meet
      all_goals refine ⟨_, rfl, rfl, ?_, ?_, ext_b (by assumption)⟩
      all_goals (first | (simp [go_sem, *]; done) | (refine (pair_set (x := .int .i64 0) (y := .int .i64 0) ?_ ?_ _ _).2.1 <;> (simp [*]; (try simp [go_sem]); done)) | (refine (pair_set (x := .int .i64 0) (y := .int .i64 0) ?_ ?_ _ _).2.2 <;> (simp [*]; (try simp [go_sem]); done)))
    case rest =>
      obtain ⟨g', rfl, rfl, hx', hy', hb2⟩ := hcut
      have hx2 : wc.cell? ⟨g, 0, none⟩ = some (.int .i64 x) := (hb2.cell (World.block_lt_of_cell? w0 ⟨g, 0, none⟩ HX.out)).trans HX.out
      have hy2 : wc.cell? ⟨g, 1, none⟩ = some (.int .i64 y) := (hb2.cell (World.block_lt_of_cell? w0 ⟨g, 1, none⟩ HY.out)).trans HY.out
      have hB2 : Below w.heap.size w wc := hB1.trans (hb2.mono hB1.size)
      clear hb2 hB1 H0
      go_wp2_with fail
      refine (eqFraction_same x y _).mono ?_
      rintro e w3 ⟨rfl, hb3⟩
      go_wp2_with fail
      go_ret
      exact ⟨rfl, hB2.trans (hb3.mono hB2.size)⟩
set_option maxHeartbeats 6400000 in
theorem fnExactMediantOf_walk (p q : Int) (_ : -9223372036854775808 ≤ p) (_ : p ≤ 9223372036854775807) (_ : -9223372036854775808 ≤ q) (_ : q ≤ 9223372036854775807)
    (r s : Int) (_ : -9223372036854775808 ≤ r) (_ : r ≤ 9223372036854775807) (_ : -9223372036854775808 ≤ s) (_ : s ≤ 9223372036854775807) (w : World) :
    Calls Try.prog 10 #[.agg #[.int .i64 p, .int .i64 q], .agg #[.int .i64 r, .int .i64 s]] w fun e w' => e = .returned (.bool true) ∧ Below w.heap.size w w' := by
  obtain ⟨x, y, c, HS, HI⟩ : ∃ x y c, Hid (∀ w, Calls Try.prog 39 #[.agg #[.int .i64 p, .int .i64 q], .agg #[.int .i64 r, .int .i64 s]] w fun e w' => e = .returned (.tuple #[.agg #[.int .i64 x, .int .i64 y], .int .i64 c]) ∧ Below w.heap.size w w') ∧
      Hid (∀ w, Calls Try.prog 40 #[.agg #[.int .i64 p, .int .i64 q], .agg #[.int .i64 r, .int .i64 s]] w fun e w' => e = .returned (.tuple #[.agg #[.int .i64 x, .int .i64 y], .int .i64 c]) ∧ Below w.heap.size w w') :=
    ⟨_, _, _, fun w => specMed_any p q r s w, fun w => implMed_any p q r s w⟩
  go_enter Try.func10, Try.ntmps10
  go_upto_region 1 with fail
  obtain ⟨t1, t2, t3, t4, hB0, hl0⟩ := two_start w p q r s 23 23
  have hsz0 : ((w.alloc (.cells #[.int .i64 p, .int .i64 q] 23)).alloc (.cells #[.int .i64 r, .int .i64 s] 23)).heap.size = w.heap.size + 2 := by simp
  generalize (w.alloc (.cells #[.int .i64 p, .int .i64 q] 23)).alloc (.cells #[.int .i64 r, .int .i64 s] 23) = B at t1 t2 t3 t4 hB0 hl0 hsz0 ⊢
  have H0 := Lib.hid (show B.cell? ⟨w.heap.size, 0, none⟩ = some (.int .i64 p) ∧ B.cell? ⟨w.heap.size, 1, none⟩ = some (.int .i64 q) ∧ B.cell? ⟨w.heap.size + 1, 0, none⟩ = some (.int .i64 r) ∧ B.cell? ⟨w.heap.size + 1, 1, none⟩ = some (.int .i64 s) from ⟨t1, t2, t3, t4⟩)
  have HZ := Lib.hid hsz0
  clear t1 t2 t3 t4 hsz0 hl0
  go_cut [5, 6] (fun v5 v6 wx => ∃ g : Nat, v5 = .pointer (some ⟨g, 0, none⟩) ∧ v6 = .int .i64 c ∧ wx.cell? ⟨g, 0, none⟩ = some (.int .i64 x) ∧ wx.cell? ⟨g, 1, none⟩ = some (.int .i64 y) ∧ Below B.heap.size B wx)
  case first =>
    go_region_held3 (fun w' => w'.cell? ⟨w.heap.size, 0, none⟩ = some (.int .i64 p) ∧ w'.cell? ⟨w.heap.size, 1, none⟩ = some (.int .i64 q) ∧ w'.cell? ⟨w.heap.size + 1, 0, none⟩ = some (.int .i64 r) ∧ w'.cell? ⟨w.heap.size + 1, 1, none⟩ = some (.int .i64 s) ∧ Below B.heap.size B w')
      (first | exact ext_of H0.out (ext_call (ext_b (by assumption)) hb) | exact ext_of H0.out (ext_first hb) | exact ext_of H0.out (ext_call ((Below.refl _ _).drew.alloc (by simp) _) hb) | exact ext_of H0.out ((Below.refl _ _).drew) | exact ext_of H0.out (Below.alloc (ext_b (by assumption)) (ext_le (ext_b (by assumption))) _) | exact ext_of H0.out ((Below.refl _ _).drew.alloc (by simp) _) | exact ext_of H0.out (ext_swap (ext_b (by assumption)) (by omega) _) | exact ext_of H0.out (ext_set2 (ext_b (by assumption)) (by omega) _ _))
      (first | (go_at_call 16; refine (toFraction_any _ _ _).mono ?_; rintro e w1 ⟨rfl, hb⟩; obtain ⟨hcc, hff, _⟩ := keepc hb; have hz := keepr hb; have hq := hb.size; (try simp only [World.size_drew] at hq); (try simp only [World.size_alloc] at hq); (try have hq2 := Nat.lt_of_succ_le hq); (try have e0 : w1.cell? ⟨B.heap.size, 0, none⟩ = some (.int .i64 0) := by (rw [hcc _ _ (by (try simp only [World.size_drew]); (try simp only [World.size_alloc]); omega)]; simp [go_sem])); (try have e1 : w1.cell? ⟨B.heap.size, 1, none⟩ = some (.int .i64 0) := by (rw [hcc _ _ (by (try simp only [World.size_drew]); (try simp only [World.size_alloc]); omega)]; simp [go_sem]))) | (go_at_call 39; refine (HS.out _).mono ?_; rintro e w1 ⟨rfl, hb⟩; obtain ⟨hcc, hff, _⟩ := keepc hb; have hz := keepr hb; have hq := hb.size; (try simp only [World.size_drew] at hq); (try simp only [World.size_alloc] at hq); (try have hq2 := Nat.lt_of_succ_le hq); (try have e0 : w1.cell? ⟨B.heap.size, 0, none⟩ = some (.int .i64 0) := by (rw [hcc _ _ (by (try simp only [World.size_drew]); (try simp only [World.size_alloc]); omega)]; simp [go_sem])); (try have e1 : w1.cell? ⟨B.heap.size, 1, none⟩ = some (.int .i64 0) := by (rw [hcc _ _ (by (try simp only [World.size_drew]); (try simp only [World.size_alloc]); omega)]; simp [go_sem]))))
    all_goals go_wp2_with fail
    all_goals go_meet
    all_goals refine ⟨_, rfl, rfl, ?_, ?_, ext_b (by assumption)⟩
    all_goals (first | (simp [go_sem, *]; done) | (refine (pair_set (x := .int .i64 0) (y := .int .i64 0) ?_ ?_ _ _).2.1 <;> (simp [*]; (try simp [go_sem]); done)) | (refine (pair_set (x := .int .i64 0) (y := .int .i64 0) ?_ ?_ _ _).2.2 <;> (simp [*]; (try simp [go_sem]); done)))
  case rest =>
    obtain ⟨g, rfl, rfl, hx, hy, hb1⟩ := hcut
    have h1 := ext_of H0.out hb1
    clear H0
    have H0 := Lib.hid (show wc.cell? ⟨w.heap.size, 0, none⟩ = some (.int .i64 p) ∧ wc.cell? ⟨w.heap.size, 1, none⟩ = some (.int .i64 q) ∧ wc.cell? ⟨w.heap.size + 1, 0, none⟩ = some (.int .i64 r) ∧ wc.cell? ⟨w.heap.size + 1, 1, none⟩ = some (.int .i64 s) from ⟨h1.1, h1.2.1, h1.2.2.1, h1.2.2.2.1⟩)
    have hB1 : Below w.heap.size w wc := hB0.trans (hb1.mono hB0.size)
    have HX := Lib.hid hx
    have HY := Lib.hid hy
    clear h1 hb1 hB0 HZ hx hy
    obtain ⟨w0, hw0⟩ : ∃ w0 : World, w0 = wc := ⟨_, rfl⟩
    subst hw0
    go_upto_region 2 with fail
    go_cut [7, 8] (fun v7 v8 wx => ∃ g' : Nat, v7 = .pointer (some ⟨g', 0, none⟩) ∧ v8 = .int .i64 c ∧ wx.cell? ⟨g', 0, none⟩ = some (.int .i64 x) ∧ wx.cell? ⟨g', 1, none⟩ = some (.int .i64 y) ∧ Below w0.heap.size w0 wx)
    case first =>
      go_region_held3 (fun w' => w'.cell? ⟨w.heap.size, 0, none⟩ = some (.int .i64 p) ∧ w'.cell? ⟨w.heap.size, 1, none⟩ = some (.int .i64 q) ∧ w'.cell? ⟨w.heap.size + 1, 0, none⟩ = some (.int .i64 r) ∧ w'.cell? ⟨w.heap.size + 1, 1, none⟩ = some (.int .i64 s) ∧ Below w0.heap.size w0 w')
        (first | exact ext_of H0.out (ext_call (ext_b (by assumption)) hb) | exact ext_of H0.out (ext_first hb) | exact ext_of H0.out (ext_call ((Below.refl _ _).drew.alloc (by simp) _) hb) | exact ext_of H0.out ((Below.refl _ _).drew) | exact ext_of H0.out (Below.alloc (ext_b (by assumption)) (ext_le (ext_b (by assumption))) _) | exact ext_of H0.out ((Below.refl _ _).drew.alloc (by simp) _) | exact ext_of H0.out (ext_swap (ext_b (by assumption)) (by omega) _) | exact ext_of H0.out (ext_set2 (ext_b (by assumption)) (by omega) _ _))
        (first | (go_at_call 16; refine (toFraction_any _ _ _).mono ?_; rintro e w1 ⟨rfl, hb⟩; obtain ⟨hcc, hff, _⟩ := keepc hb; have hz := keepr hb; have hq := hb.size; (try simp only [World.size_drew] at hq); (try simp only [World.size_alloc] at hq); (try have hq2 := Nat.lt_of_succ_le hq); (try have e0 : w1.cell? ⟨w0.heap.size, 0, none⟩ = some (.int .i64 0) := by (rw [hcc _ _ (by (try simp only [World.size_drew]); (try simp only [World.size_alloc]); omega)]; simp [go_sem])); (try have e1 : w1.cell? ⟨w0.heap.size, 1, none⟩ = some (.int .i64 0) := by (rw [hcc _ _ (by (try simp only [World.size_drew]); (try simp only [World.size_alloc]); omega)]; simp [go_sem]))) | (go_at_call 40; refine (HI.out _).mono ?_; rintro e w1 ⟨rfl, hb⟩; obtain ⟨hcc, hff, _⟩ := keepc hb; have hz := keepr hb; have hq := hb.size; (try simp only [World.size_drew] at hq); (try simp only [World.size_alloc] at hq); (try have hq2 := Nat.lt_of_succ_le hq); (try have e0 : w1.cell? ⟨w0.heap.size, 0, none⟩ = some (.int .i64 0) := by (rw [hcc _ _ (by (try simp only [World.size_drew]); (try simp only [World.size_alloc]); omega)]; simp [go_sem])); (try have e1 : w1.cell? ⟨w0.heap.size, 1, none⟩ = some (.int .i64 0) := by (rw [hcc _ _ (by (try simp only [World.size_drew]); (try simp only [World.size_alloc]); omega)]; simp [go_sem]))))
      all_goals go_wp2_with fail
      all_goals go_meet
      all_goals refine ⟨_, rfl, rfl, ?_, ?_, ext_b (by assumption)⟩
      all_goals (first | (simp [go_sem, *]; done) | (refine (pair_set (x := .int .i64 0) (y := .int .i64 0) ?_ ?_ _ _).2.1 <;> (simp [*]; (try simp [go_sem]); done)) | (refine (pair_set (x := .int .i64 0) (y := .int .i64 0) ?_ ?_ _ _).2.2 <;> (simp [*]; (try simp [go_sem]); done)))
    case rest =>
      obtain ⟨g', rfl, rfl, hx', hy', hb2⟩ := hcut
      have hx2 : wc.cell? ⟨g, 0, none⟩ = some (.int .i64 x) := (hb2.cell (World.block_lt_of_cell? w0 ⟨g, 0, none⟩ HX.out)).trans HX.out
      have hy2 : wc.cell? ⟨g, 1, none⟩ = some (.int .i64 y) := (hb2.cell (World.block_lt_of_cell? w0 ⟨g, 1, none⟩ HY.out)).trans HY.out
      have hB2 : Below w.heap.size w wc := hB1.trans (hb2.mono hB1.size)
      clear hb2 hB1 H0
      go_wp2_with fail
      refine (eqFraction_same x y _).mono ?_
      rintro e w3 ⟨rfl, hb3⟩
      go_wp2_with fail
      go_ret
      exact ⟨rfl, hB2.trans (hb3.mono hB2.size)⟩
end Go.Proofs.Ytikdahbjfehhdaa
