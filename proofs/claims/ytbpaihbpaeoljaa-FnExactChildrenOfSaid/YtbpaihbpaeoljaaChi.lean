/-
  The children of a fraction: contracts of the exported functions; the walk of the law FnExactChildrenOf.
  No condition but those of the law's own text.
-/
import Derived.Test.YtbpaihbpaeoljaaProg
import Derived.Test.YtbpaihbpaeoljaaMem
import Derived.Test.YtbpaihbpaeoljaaBasic
import Derived.Test.YtbpaihbpaeoljaaFrac
import Derived.Test.YtbpaihbpaeoljaaFrac2
import Derived.Test.YtbpaihbpaeoljaaFrac3
import Derived.Test.YtbpaihbpaeoljaaMarks
import Derived.Test.YtbpaihbpaeoljaaOwn
import Derived.Test.YtbpaihbpaeoljaaShort
import Derived.Test.YtbpaihbpaeoljaaExp
import Derived.Test.YtbpaihbpaeoljaaPthM
import Derived.Test.YtbpaihbpaeoljaaPth
import Derived.Test.YtbpaihbpaeoljaaPto
import Derived.Test.YtbpaihbpaeoljaaBnd
import Derived.Handy
import Derived.BigQuiet
import Derived.RegionTactic
import Derived.BigRegion
import Derived.Deep.QuietTactic
namespace Go.Proofs.Ytbpaihbpaeoljaa
open Go.RowKit
set_option linter.unusedVariables false
set_option linter.unusedSimpArgs false
attribute [local go_sem ↓] Go.wp_at_zero Go.wp_at_succ

theorem plR_one {num den : Int} (h : Int.gcd num den = 1) (hd : 0 < den) : plR num den = if vfB num den = true then (num, den, 0) else (0, 0, 5) := by
  have hg : plG num den = 1 := by unfold plG; rw [if_neg (by omega), h]; rfl
  rw [plR_eq hg, Int.tdiv_one, Int.tdiv_one]
theorem gcd_det {p q r t : Int} (h : r * q - p * t = 1) : Int.gcd p q = 1 := by
  have h1 : (Int.gcd p q : Int) ∣ p := Int.gcd_dvd_left ..
  have h2 : (Int.gcd p q : Int) ∣ q := Int.gcd_dvd_right ..
  have h3 : (Int.gcd p q : Int) ∣ r * q - p * t := Int.dvd_sub (Int.dvd_trans h2 (Int.dvd_mul_left r q)) (Int.dvd_trans h1 (Int.dvd_mul_right p t))
  rw [h] at h3
  have := Int.le_of_dvd (by omega) h3
  have hp : Int.gcd p q ≠ 0 := by
    intro h0
    rw [Int.gcd_eq_zero_iff] at h0
    obtain ⟨rfl, rfl⟩ := h0
    omega
  omega

/-- The children of a fraction, and a code. -/
def chiT (p q : Int) : Int × Int × Int × Int × Int :=
  if posC p q = 0 then
    (if vfB ((bndP p q.toNat).1 + p) ((bndP p q.toNat).2.1 + q) = true ∧ vfB ((bndP p q.toNat).2.2.1 + p) ((bndP p q.toNat).2.2.2 + q) = true then
      ((bndP p q.toNat).1 + p, (bndP p q.toNat).2.1 + q, (bndP p q.toNat).2.2.1 + p, (bndP p q.toNat).2.2.2 + q, 0) else (0, 0, 0, 0, 5))
  else (0, 0, 0, 0, posC p q)
/-- The bounds of a positive fraction, opened. -/
theorem chi_open {p : Int} {d : Nat} (hv : vfB p d = true) (hpos : 0 < p) : ∃ a b c e : Int, bndP p d = (a, b, c, e) ∧ BndOk (pthL p d) 0 (0, 1, 1, 0) ∧ 0 ≤ a ∧ a ≤ 1000000000 ∧ 0 ≤ b ∧ b ≤ 1000000000 ∧ 0 ≤ c ∧ c ≤ 1000000000 ∧ 0 ≤ e ∧ e ≤ 1000000000 ∧
    Int.gcd (a + p) (b + d) = 1 ∧ Int.gcd (c + p) (e + d) = 1 := by
  obtain ⟨hok, h1, h2, h3⟩ := bnd_path hv hpos
  have hin := hok.last
  change BndIn (bndP p d) at hin
  generalize bndP p d = B at *
  obtain ⟨a, b, c, e⟩ := B
  simp only at h1 h2 h3
  obtain ⟨⟨a0, a1⟩, ⟨b0, b1⟩, ⟨c0, c1⟩, ⟨e0, e1⟩⟩ := hin
  refine ⟨a, b, c, e, rfl, hok, a0, a1, b0, b1, c0, c1, e0, e1, ?_, ?_⟩
  · refine gcd_det (r := -a) (t := -b) ?_
    rw [← h1, ← h2]
    grind
  · refine gcd_det (r := c) (t := e) ?_
    rw [← h1, ← h2]
    grind

theorem two_set {W : World} {g h : Nat} {x y u v : Value} (hne : g ≠ h) (g0 : W.cell? ⟨g, 0, none⟩ = some x) (g1 : W.cell? ⟨g, 1, none⟩ = some y) (h0 : W.cell? ⟨h, 0, none⟩ = some u) (h1 : W.cell? ⟨h, 1, none⟩ = some v) (a b c e : Value) :
    (W.setCell ⟨g, 0, none⟩ a).cell? ⟨g, 0, none⟩ = some a ∧ ((W.setCell ⟨g, 0, none⟩ a).setCell ⟨g, 1, none⟩ b).cell? ⟨g, 1, none⟩ = some b ∧
      (((W.setCell ⟨g, 0, none⟩ a).setCell ⟨g, 1, none⟩ b).setCell ⟨h, 0, none⟩ c).cell? ⟨h, 0, none⟩ = some c ∧ ((((W.setCell ⟨g, 0, none⟩ a).setCell ⟨g, 1, none⟩ b).setCell ⟨h, 0, none⟩ c).setCell ⟨h, 1, none⟩ e).cell? ⟨h, 1, none⟩ = some e :=
  ⟨setS g0, setS (setO (by simp) g1), setS (setO (by simp) (setO (by simp) h0)), setS (setO (by simp) (setO (by simp) (setO (by simp) h1)))⟩
theorem below_two {B : Nat} {w W : World} {g h : Nat} (hb : Below B w W) (hg : B ≤ g) (hh : B ≤ h) (a b c e : Value) : Below B w ((((W.setCell ⟨g, 0, none⟩ a).setCell ⟨g, 1, none⟩ b).setCell ⟨h, 0, none⟩ c).setCell ⟨h, 1, none⟩ e) :=
  (((hb.setCell (p := ⟨g, 0, none⟩) hg _).setCell (p := ⟨g, 1, none⟩) hg _).setCell (p := ⟨h, 0, none⟩) hh _).setCell (p := ⟨h, 1, none⟩) hh _

set_option maxHeartbeats 3200000 in
theorem implChi_any (p q : Int) (hp : Rng p) (hq : Rng q) (w : World) : Calls Try.prog 49 #[.agg #[.int .i64 p, .int .i64 q]] w fun e w' =>
    e = .returned (.tuple #[.agg #[.int .i64 (chiT p q).1, .int .i64 (chiT p q).2.1], .agg #[.int .i64 (chiT p q).2.2.1, .int .i64 (chiT p q).2.2.2.1], .int .i64 (chiT p q).2.2.2.2]) ∧ Below w.heap.size w w' := by
  by_cases h0 : posC p q = 0
  · obtain ⟨hv, hpos⟩ := pos_ok h0
    obtain ⟨v1, v2, v3, v4, _⟩ := vfB_iff.1 hv
    obtain ⟨d, rfl⟩ := Int.eq_ofNat_of_zero_le (show 0 ≤ q by omega)
    obtain ⟨a, b, c, e, hB, hok, a0, a1, b0, b1, c0, c1, e0, e1, g1, g2⟩ := chi_open hv hpos
    have hlen : (pthL p d).length ≤ 1000000000 := by have := pthL_len p d; omega
    have HR := Lib.hid (pthL_rng v3 v4 (show d ≤ 1000000000 by omega))
    have hL := fun w => plainOf_any (a + p) (b + d) w (by omega) (by omega) (by omega) (by omega) (.inr (by omega))
    have hK := fun w => plainOf_any (c + p) (e + d) w (by omega) (by omega) (by omega) (by omega) (.inr (by omega))
    rw [plR_one g1 (by omega)] at hL
    rw [plR_one g2 (by omega)] at hK
    unfold chiT
    rw [if_pos h0, Int.toNat_natCast, hB]
    simp only
    have hBF : bndF (pthL p d) 0 (0, 1, 1, 0) = (a, b, c, e) := hB
    have HBd := Lib.hid (fun A n cap w h => bounds_any A n cap (pthL p d) w h hok)
    rw [hBF] at HBd
    obtain ⟨zs, hzs⟩ : ∃ zs, zs = pthL p d := ⟨_, rfl⟩
    have HP := Lib.hid (fun w => pathTo_any p d w v3 v4 (by omega) (by omega))
    rw [← hzs] at HP HBd hlen HR
    clear hok hzs hBF hB g1 g2
    obtain ⟨lx, ly, lc, rx, ry, rc, HL, HK, hcase⟩ : ∃ lx ly lc rx ry rc : Int, Hid (∀ w, Calls Try.prog 74 #[.int .i64 (a + p), .int .i64 (b + d)] w fun e w' => e = .returned (.tuple #[.agg #[.int .i64 lx, .int .i64 ly], .int .i64 lc]) ∧ Below w.heap.size w w') ∧
        Hid (∀ w, Calls Try.prog 74 #[.int .i64 (c + p), .int .i64 (e + d)] w fun e w' => e = .returned (.tuple #[.agg #[.int .i64 rx, .int .i64 ry], .int .i64 rc]) ∧ Below w.heap.size w w') ∧
        ((lc = 0 ∧ rc = 0 ∧ (if vfB (a + p) (b + d) = true ∧ vfB (c + p) (e + d) = true then (a + p, b + (d : Int), c + p, e + (d : Int), (0 : Int)) else (0, 0, 0, 0, 5)) = (lx, ly, rx, ry, 0)) ∨
         (((lc != 0) = true ∨ (lc = 0 ∧ (rc != 0) = true)) ∧ (if vfB (a + p) (b + d) = true ∧ vfB (c + p) (e + d) = true then (a + p, b + (d : Int), c + p, e + (d : Int), (0 : Int)) else (0, 0, 0, 0, 5)) = (0, 0, 0, 0, 5))) := by
      cases hv1 : vfB (a + p) (b + d)
      · simp only [hv1, Bool.false_eq_true, if_false] at hL
        cases hv2 : vfB (c + p) (e + d)
        · simp only [hv2, Bool.false_eq_true, if_false] at hK
          exact ⟨_, _, _, _, _, _, hL, hK, .inr ⟨.inl rfl, by simp⟩⟩
        · simp only [hv2, if_true] at hK
          exact ⟨_, _, _, _, _, _, hL, hK, .inr ⟨.inl rfl, by simp⟩⟩
      · simp only [hv1, if_true] at hL
        cases hv2 : vfB (c + p) (e + d)
        · simp only [hv2, Bool.false_eq_true, if_false] at hK
          exact ⟨_, _, _, _, _, _, hL, hK, .inr ⟨.inr ⟨rfl, rfl⟩, by simp⟩⟩
        · simp only [hv2, if_true] at hK
          exact ⟨_, _, _, _, _, _, hL, hK, .inl ⟨rfl, rfl, by simp⟩⟩
    clear hL hK
    rcases hcase with ⟨rfl, rfl, hfin⟩ | ⟨hbad, hfin⟩
    · rw [hfin]
      clear hfin
      go_enter Try.func49, Try.ntmps49
      go_wp2_with fail
      refine (chk_any p d (w.heap.size + 1 + 1 + 1) 1 _ (newcellA (by simp) rfl) (newcellA (by simp) rfl) hp hq).mono ?_
      rintro e w1 ⟨rfl, hb1⟩
      obtain ⟨hc1, hf1, hs1⟩ := keepc hb1
      have hB1 : Below w.heap.size w w1 := Below.trans (by go_grown) (hb1.mono (by first | exact Nat.le_refl _ | (simp only [World.size_alloc]; omega)))
      try simp only [World.size_alloc] at hs1
      have hl1_0 : w.heap.size < w1.heap.size := by omega
      have hl1_1 : w.heap.size + 1 < w1.heap.size := by omega
      have hl1_2 : w.heap.size + 2 < w1.heap.size := by omega
      rw [h0]
      go_wp2_with fail
      refine (HP.out _).mono ?_
      rintro e w2 ⟨⟨A2, c2, rfl, ho2⟩, hb2⟩
      obtain ⟨hc2, hf2, hs2⟩ := keepc hb2
      have hB2 : Below w.heap.size w w2 := hB1.trans (hb2.mono (by have := hB1.size; omega))
      have hl2_0 : w.heap.size < w2.heap.size := by omega
      have hl2_1 : w.heap.size + 1 < w2.heap.size := by omega
      have hl2_2 : w.heap.size + 2 < w2.heap.size := by omega
      have hw := IRow.of_own ho2 (by omega) (fun z hz => by have := HR.out z hz; unfold Rng; omega)
      clear ho2
      go_wp2_with fail
      refine (HBd.out A2 _ c2 _ hw).mono ?_
      rintro e w' ⟨rfl, rfl⟩
      clear hw
      go_wp2_with fail
      refine (HL.out _).mono ?_
      rintro e w3 ⟨rfl, hb3⟩
      obtain ⟨hc3, hf3, hs3⟩ := keepc hb3
      have hB3 : Below w.heap.size w w3 := hB2.trans (hb3.mono (by have := hB2.size; omega))
      have hl3_0 : w.heap.size < w3.heap.size := by omega
      have hl3_1 : w.heap.size + 1 < w3.heap.size := by omega
      have hl3_2 : w.heap.size + 2 < w3.heap.size := by omega
      go_wp2_with fail
      refine (HK.out _).mono ?_
      rintro e w4 ⟨rfl, hb4⟩
      obtain ⟨hc4, hf4, hs4⟩ := keepc hb4
      have hB4 : Below w.heap.size w w4 := (hB3.alloc (by omega) _).trans (hb4.mono (by simp; omega))
      have hl4_a : w3.heap.size < w4.heap.size := by simp only [World.size_alloc] at hs4; omega
      have hl4_0 : w.heap.size < w4.heap.size := by omega
      have hl4_1 : w.heap.size + 1 < w4.heap.size := by omega
      have hl4_2 : w.heap.size + 1 + 1 < w4.heap.size := by omega
      have hl3_2' : w.heap.size + 1 + 1 < w3.heap.size := by omega
      have hZ : ∀ b j v, b < w.heap.size + 1 + 1 + 1 → (((w.alloc (.cells #[.int .i64 p, .int .i64 (d : Int)] 27)).alloc (.cells #[.int .i64 0, .int .i64 0] 27)).alloc (.cells #[.int .i64 0, .int .i64 0] 27)).cell? ⟨b, j, none⟩ = some v → w4.cell? ⟨b, j, none⟩ = some v := fun b j v hb h =>
        (hc4 _ _ (by simp; omega)).trans ((World.cell?_alloc_lt _ _ _ (by simp; omega)).trans ((hc3 _ _ (by omega)).trans ((hc2 _ _ (by omega)).trans ((hc1 _ _ (by simp; omega)).trans ((World.cell?_alloc_lt _ _ _ (by simp; omega)).trans h)))))
      have z0 := hZ (w.heap.size + 1) 0 (.int .i64 0) (by omega) (by simp [go_sem])
      have z1 := hZ (w.heap.size + 1) 1 (.int .i64 0) (by omega) (by simp [go_sem])
      have y0 := hZ (w.heap.size + 1 + 1) 0 (.int .i64 0) (by omega) (by simp [go_sem])
      have y1 := hZ (w.heap.size + 1 + 1) 1 (.int .i64 0) (by omega) (by simp [go_sem])
      clear hZ
      go_wp2_with fail
      go_region
      go_wp2_with fail
      obtain ⟨s0, s1, s2, s3⟩ := two_set (W := w4) (show w.heap.size + 1 ≠ w.heap.size + 1 + 1 by omega) z0 z1 y0 y1 (.int .i64 lx) (.int .i64 ly) (.int .i64 rx) (.int .i64 ry)
      exact bodyPost_ret (v := .tuple #[.agg #[.int .i64 lx, .int .i64 ly], .agg #[.int .i64 rx, .int .i64 ry], .int .i64 0]) (by simp [results, Try.results49, go_sem, hl4_1, hl4_2, s0, s1, s2, s3]) rfl ⟨rfl, (by first | exact ((below_two hB4 (by omega) (by omega) _ _ _ _).alloc (by simp; omega) _).drew | exact (below_two hB4 (by omega) (by omega) _ _ _ _).alloc (by simp; omega) _)⟩
    · rw [hfin]
      clear hfin
      rcases hbad with hbad | ⟨rfl, hbad⟩
      all_goals
        go_enter Try.func49, Try.ntmps49
        go_wp2_with fail
        refine (chk_any p d (w.heap.size + 1 + 1 + 1) 1 _ (newcellA (by simp) rfl) (newcellA (by simp) rfl) hp hq).mono ?_
        rintro e w1 ⟨rfl, hb1⟩
        obtain ⟨hc1, hf1, hs1⟩ := keepc hb1
        have hB1 : Below w.heap.size w w1 := Below.trans (by go_grown) (hb1.mono (by first | exact Nat.le_refl _ | (simp only [World.size_alloc]; omega)))
        try simp only [World.size_alloc] at hs1
        have hl1_0 : w.heap.size < w1.heap.size := by omega
        have hl1_1 : w.heap.size + 1 < w1.heap.size := by omega
        have hl1_2 : w.heap.size + 2 < w1.heap.size := by omega
        rw [h0]
        go_wp2_with fail
        refine (HP.out _).mono ?_
        rintro e w2 ⟨⟨A2, c2, rfl, ho2⟩, hb2⟩
        obtain ⟨hc2, hf2, hs2⟩ := keepc hb2
        have hB2 : Below w.heap.size w w2 := hB1.trans (hb2.mono (by have := hB1.size; omega))
        have hl2_0 : w.heap.size < w2.heap.size := by omega
        have hl2_1 : w.heap.size + 1 < w2.heap.size := by omega
        have hl2_2 : w.heap.size + 2 < w2.heap.size := by omega
        have hw := IRow.of_own ho2 (by omega) (fun z hz => by have := HR.out z hz; unfold Rng; omega)
        clear ho2
        go_wp2_with fail
        refine (HBd.out A2 _ c2 _ hw).mono ?_
        rintro e w' ⟨rfl, rfl⟩
        clear hw
        go_wp2_with fail
        refine (HL.out _).mono ?_
        rintro e w3 ⟨rfl, hb3⟩
        obtain ⟨hc3, hf3, hs3⟩ := keepc hb3
        have hB3 : Below w.heap.size w w3 := hB2.trans (hb3.mono (by have := hB2.size; omega))
        have hl3_0 : w.heap.size < w3.heap.size := by omega
        have hl3_1 : w.heap.size + 1 < w3.heap.size := by omega
        have hl3_2 : w.heap.size + 2 < w3.heap.size := by omega
        go_wp2_with fail
        refine (HK.out _).mono ?_
        rintro e w4 ⟨rfl, hb4⟩
        obtain ⟨hc4, hf4, hs4⟩ := keepc hb4
        have hB4 : Below w.heap.size w w4 := (hB3.alloc (by omega) _).trans (hb4.mono (by simp; omega))
        have hl4_a : w3.heap.size < w4.heap.size := by simp only [World.size_alloc] at hs4; omega
        have hl4_0 : w.heap.size < w4.heap.size := by omega
        have hl4_1 : w.heap.size + 1 < w4.heap.size := by omega
        have hl4_2 : w.heap.size + 1 + 1 < w4.heap.size := by omega
        have hl3_2' : w.heap.size + 1 + 1 < w3.heap.size := by omega
        have hZ : ∀ b j v, b < w.heap.size + 1 + 1 + 1 → (((w.alloc (.cells #[.int .i64 p, .int .i64 (d : Int)] 27)).alloc (.cells #[.int .i64 0, .int .i64 0] 27)).alloc (.cells #[.int .i64 0, .int .i64 0] 27)).cell? ⟨b, j, none⟩ = some v → w4.cell? ⟨b, j, none⟩ = some v := fun b j v hb h =>
          (hc4 _ _ (by simp; omega)).trans ((World.cell?_alloc_lt _ _ _ (by simp; omega)).trans ((hc3 _ _ (by omega)).trans ((hc2 _ _ (by omega)).trans ((hc1 _ _ (by simp; omega)).trans ((World.cell?_alloc_lt _ _ _ (by simp; omega)).trans h)))))
        have z0 := hZ (w.heap.size + 1) 0 (.int .i64 0) (by omega) (by simp [go_sem])
        have z1 := hZ (w.heap.size + 1) 1 (.int .i64 0) (by omega) (by simp [go_sem])
        have y0 := hZ (w.heap.size + 1 + 1) 0 (.int .i64 0) (by omega) (by simp [go_sem])
        have y1 := hZ (w.heap.size + 1 + 1) 1 (.int .i64 0) (by omega) (by simp [go_sem])
        clear hZ
        go_wp2_with fail
        obtain ⟨s0, s1, s2, s3⟩ := two_set (W := w4) (show w.heap.size + 1 ≠ w.heap.size + 1 + 1 by omega) z0 z1 y0 y1 (.int .i64 0) (.int .i64 0) (.int .i64 0) (.int .i64 0)
        exact bodyPost_ret (v := .tuple #[.agg #[.int .i64 0, .int .i64 0], .agg #[.int .i64 0, .int .i64 0], .int .i64 5]) (by simp [results, Try.results49, go_sem, hl4_1, hl4_2, s0, s1, s2, s3]) rfl ⟨rfl, (below_two hB4 (by omega) (by omega) _ _ _ _).alloc (by simp; omega) _⟩
  · rw [show chiT p q = (0, 0, 0, 0, posC p q) from if_neg h0]
    have HC := Lib.hid (fun w b cap c0 c1 => chk_any p q b cap w c0 c1 hp hq)
    have hne : (posC p q != 0) = true := by rw [bne_iff_ne]; exact h0
    generalize posC p q = k at *
    clear h0
    go_enter Try.func49, Try.ntmps49
    go_wp2_with fail
    refine (HC.out _ (w.heap.size + 1 + 1 + 1) 1 (newcellA (by simp) rfl) (newcellA (by simp) rfl)).mono ?_
    rintro e w1 ⟨rfl, hb1⟩
    obtain ⟨hc1, hf1, hs1⟩ := keepc hb1
    have hB1 : Below w.heap.size w w1 := Below.trans (by go_grown) (hb1.mono (by first | exact Nat.le_refl _ | (simp only [World.size_alloc]; omega)))
    try simp only [World.size_alloc] at hs1
    have hl1_0 : w.heap.size < w1.heap.size := by omega
    have hl1_1 : w.heap.size + 1 < w1.heap.size := by omega
    have hl1_2 : w.heap.size + 2 < w1.heap.size := by omega
    have hZ : ∀ b j v, b < w.heap.size + 1 + 1 + 1 → (((w.alloc (.cells #[.int .i64 p, .int .i64 q] 27)).alloc (.cells #[.int .i64 0, .int .i64 0] 27)).alloc (.cells #[.int .i64 0, .int .i64 0] 27)).cell? ⟨b, j, none⟩ = some v → w1.cell? ⟨b, j, none⟩ = some v := fun b j v hb h =>
      (hc1 _ _ (by simp; omega)).trans ((World.cell?_alloc_lt _ _ _ (by simp; omega)).trans h)
    have z0 := hZ (w.heap.size + 1) 0 (.int .i64 0) (by omega) (by simp [go_sem])
    have z1 := hZ (w.heap.size + 1) 1 (.int .i64 0) (by omega) (by simp [go_sem])
    have y0 := hZ (w.heap.size + 1 + 1) 0 (.int .i64 0) (by omega) (by simp [go_sem])
    have y1 := hZ (w.heap.size + 1 + 1) 1 (.int .i64 0) (by omega) (by simp [go_sem])
    clear hZ
    have hl1_2' : w.heap.size + 1 + 1 < w1.heap.size := by omega
    go_wp2_with fail
    obtain ⟨s0, s1, s2, s3⟩ := two_set (W := w1) (show w.heap.size + 1 ≠ w.heap.size + 1 + 1 by omega) z0 z1 y0 y1 (.int .i64 0) (.int .i64 0) (.int .i64 0) (.int .i64 0)
    exact bodyPost_ret (v := .tuple #[.agg #[.int .i64 0, .int .i64 0], .agg #[.int .i64 0, .int .i64 0], .int .i64 k]) (by simp [results, Try.results49, go_sem, s0, s1, s2, s3]) rfl ⟨rfl, below_two hB1 (by omega) (by omega) _ _ _ _⟩
set_option maxHeartbeats 3200000 in
theorem specChi_any (p q : Int) (hp : Rng p) (hq : Rng q) (w : World) : Calls Try.prog 48 #[.agg #[.int .i64 p, .int .i64 q]] w fun e w' =>
    e = .returned (.tuple #[.agg #[.int .i64 (chiT p q).1, .int .i64 (chiT p q).2.1], .agg #[.int .i64 (chiT p q).2.2.1, .int .i64 (chiT p q).2.2.2.1], .int .i64 (chiT p q).2.2.2.2]) ∧ Below w.heap.size w w' := by
  by_cases h0 : posC p q = 0
  · obtain ⟨hv, hpos⟩ := pos_ok h0
    obtain ⟨v1, v2, v3, v4, _⟩ := vfB_iff.1 hv
    obtain ⟨d, rfl⟩ := Int.eq_ofNat_of_zero_le (show 0 ≤ q by omega)
    obtain ⟨a, b, c, e, hB, hok, a0, a1, b0, b1, c0, c1, e0, e1, g1, g2⟩ := chi_open hv hpos
    have hlen : (pthL p d).length ≤ 1000000000 := by have := pthL_len p d; omega
    have HR := Lib.hid (pthL_rng v3 v4 (show d ≤ 1000000000 by omega))
    unfold chiT
    rw [if_pos h0, Int.toNat_natCast, hB]
    simp only
    have hBF : bndF (pthL p d) 0 (0, 1, 1, 0) = (a, b, c, e) := hB
    have HBd := Lib.hid (fun A n cap w h => l05Bounds_any A n cap (pthL p d) w h hok)
    rw [hBF] at HBd
    obtain ⟨zs, hzs⟩ : ∃ zs, zs = pthL p d := ⟨_, rfl⟩
    have HP := Lib.hid (fun w => l05Path_any p d w v3 v4 (by omega) (by omega))
    rw [← hzs] at HP HBd hlen HR
    clear hok hzs hBF hB g1 g2
    rw [Int.add_comm a p, Int.add_comm b d, Int.add_comm c p, Int.add_comm e d]
    cases hv1 : vfB (p + a) ((d : Int) + b)
    · rw [if_neg (by simp)]
      go_enter Try.func48, Try.ntmps48
      go_wp2_with fail
      refine (l05Code_any p d _).mono ?_
      rintro e w1 ⟨rfl, hb1⟩
      obtain ⟨hc1, hf1, hs1⟩ := keepc hb1
      have hB1 : Below w.heap.size w w1 := Below.trans (by go_grown) (hb1.mono (by first | exact Nat.le_refl _ | (simp only [World.size_alloc]; omega)))
      try simp only [World.size_alloc] at hs1
      have hl1_0 : w.heap.size < w1.heap.size := by omega
      have hl1_1 : w.heap.size + 1 < w1.heap.size := by omega
      have hl1_2 : w.heap.size + 2 < w1.heap.size := by omega
      rw [h0]
      go_wp2_with fail
      refine (HP.out _).mono ?_
      rintro e w2 ⟨⟨A2, c2, rfl, ho2⟩, hb2⟩
      obtain ⟨hc2, hf2, hs2⟩ := keepc hb2
      have hB2 : Below w.heap.size w w2 := hB1.trans (hb2.mono (by have := hB1.size; omega))
      have hl2_0 : w.heap.size < w2.heap.size := by omega
      have hl2_1 : w.heap.size + 1 < w2.heap.size := by omega
      have hl2_2 : w.heap.size + 2 < w2.heap.size := by omega
      have hw := IRow.of_own ho2 (by omega) (fun z hz => by have := HR.out z hz; unfold Rng; omega)
      clear ho2
      go_wp2_with fail
      refine (HBd.out A2 _ c2 _ hw).mono ?_
      rintro e w3 ⟨rfl, hb3⟩
      obtain ⟨hc3, hf3, hs3⟩ := keepc hb3
      have hB3 : Below w.heap.size w w3 := hB2.trans (hb3.mono (by have := hB2.size; omega))
      have hl3_0 : w.heap.size < w3.heap.size := by omega
      have hl3_1 : w.heap.size + 1 < w3.heap.size := by omega
      have hl3_2 : w.heap.size + 2 < w3.heap.size := by omega
      have hZ : ∀ b j v, b < w.heap.size + 1 + 1 + 1 → (((w.alloc (.cells #[.int .i64 p, .int .i64 (d : Int)] 27)).alloc (.cells #[.int .i64 0, .int .i64 0] 27)).alloc (.cells #[.int .i64 0, .int .i64 0] 27)).cell? ⟨b, j, none⟩ = some v → w3.cell? ⟨b, j, none⟩ = some v := fun b j v hb h =>
        (hc3 _ _ (by omega)).trans ((hc2 _ _ (by omega)).trans ((hc1 _ _ (by simp; omega)).trans h))
      have hF : ∀ b j, b < w.heap.size + 1 + 1 + 1 → (((w.alloc (.cells #[.int .i64 p, .int .i64 (d : Int)] 27)).alloc (.cells #[.int .i64 0, .int .i64 0] 27)).alloc (.cells #[.int .i64 0, .int .i64 0] 27)).frozen? ⟨b, j, none⟩ = false → w3.frozen? ⟨b, j, none⟩ = false := fun b j hb h =>
        (hf3 _ _ (by omega)).trans ((hf2 _ _ (by omega)).trans ((hf1 _ _ (by simp; omega)).trans h))
      have HZ := Lib.hid hZ
      have HF := Lib.hid hF
      clear hZ hF
      go_wp2_with fail
      refine (l02Ok_any (p + a) ((d : Int) + b) _).mono ?_
      rintro e w4 ⟨rfl, hb4⟩
      have hB4 : Below w.heap.size w w4 := (((hB3.alloc (by omega) _).alloc (by simp; omega) _).alloc (by simp; omega) _).trans (hb4.mono (by simp; omega))
      have hs4 : w3.heap.size + 1 + 1 + 1 ≤ w4.heap.size := by simpa using hb4.size
      have kc : ∀ b j v, b < w3.heap.size → w3.cell? ⟨b, j, none⟩ = some v → w4.cell? ⟨b, j, none⟩ = some v := fun b j v hb h =>
        (hb4.cell (p := ⟨b, j, none⟩) (by simp; omega)).trans ((World.cell?_alloc_lt _ _ _ (by simp; omega)).trans ((World.cell?_alloc_lt _ _ _ (by simp; omega)).trans ((World.cell?_alloc_lt _ _ _ hb).trans h)))
      have kf : ∀ b j, b < w3.heap.size → w3.frozen? ⟨b, j, none⟩ = false → w4.frozen? ⟨b, j, none⟩ = false := fun b j hb h =>
        (hb4.frozen (p := ⟨b, j, none⟩) (by simp; omega)).trans ((World.frozen?_of_block (Below.heap_alloc _ _ _ (by simp; omega))).trans ((World.frozen?_of_block (Below.heap_alloc _ _ _ (by simp; omega))).trans ((World.frozen?_of_block (Below.heap_alloc _ _ _ hb)).trans h)))
      have z0 := kc _ _ _ (by omega) (HZ.out (w.heap.size + 1) 0 (.int .i64 0) (by omega) (by simp [go_sem]))
      have z1 := kc _ _ _ (by omega) (HZ.out (w.heap.size + 1) 1 (.int .i64 0) (by omega) (by simp [go_sem]))
      have y0 := kc _ _ _ (by omega) (HZ.out (w.heap.size + 1 + 1) 0 (.int .i64 0) (by omega) (newcellA (by simp) rfl))
      have y1 := kc _ _ _ (by omega) (HZ.out (w.heap.size + 1 + 1) 1 (.int .i64 0) (by omega) (newcellA (by simp) rfl))
      have fz0 := kf _ _ (by omega) (HF.out (w.heap.size + 1) 0 (by omega) (by simp [go_sem]))
      have fz1 := kf _ _ (by omega) (HF.out (w.heap.size + 1) 1 (by omega) (by simp [go_sem]))
      have fy0 := kf _ _ (by omega) (HF.out (w.heap.size + 1 + 1) 0 (by omega) (by simp [go_sem]))
      have fy1 := kf _ _ (by omega) (HF.out (w.heap.size + 1 + 1) 1 (by omega) (by simp [go_sem]))
      have l0 : w4.cell? ⟨w3.heap.size + 1, 0, none⟩ = some (.int .i64 (p + a)) := (hb4.cell (p := ⟨w3.heap.size + 1, 0, none⟩) (by simp)).trans ((World.cell?_alloc_lt _ _ _ (by simp)).trans (newcellA (by simp) rfl))
      have l1 : w4.cell? ⟨w3.heap.size + 1, 1, none⟩ = some (.int .i64 ((d : Int) + b)) := (hb4.cell (p := ⟨w3.heap.size + 1, 1, none⟩) (by simp)).trans ((World.cell?_alloc_lt _ _ _ (by simp)).trans (newcellA (by simp) rfl))
      have r0 : w4.cell? ⟨w3.heap.size + 1 + 1, 0, none⟩ = some (.int .i64 (p + c)) := (hb4.cell (p := ⟨w3.heap.size + 1 + 1, 0, none⟩) (by simp)).trans (newcellA (by simp) rfl)
      have r1 : w4.cell? ⟨w3.heap.size + 1 + 1, 1, none⟩ = some (.int .i64 ((d : Int) + e)) := (hb4.cell (p := ⟨w3.heap.size + 1 + 1, 1, none⟩) (by simp)).trans (newcellA (by simp) rfl)
      have hl4_1 : w.heap.size + 1 < w4.heap.size := by omega
      have hl4_2 : w.heap.size + 1 + 1 < w4.heap.size := by omega
      have hl4_3 : w3.heap.size + 1 < w4.heap.size := by omega
      have hl4_4 : w3.heap.size + 1 + 1 < w4.heap.size := by omega
      clear kc kf HZ HF hb4 hc1 hc2 hc3 hf1 hf2 hf3
      rw [hv1]
      go_wp2_with fail
      obtain ⟨s0, s1, s2, s3⟩ := two_set (W := w4) (show w.heap.size + 1 ≠ w.heap.size + 1 + 1 by omega) z0 z1 y0 y1 (.int .i64 0) (.int .i64 0) (.int .i64 0) (.int .i64 0)
      exact bodyPost_ret (v := .tuple #[.agg #[.int .i64 0, .int .i64 0], .agg #[.int .i64 0, .int .i64 0], .int .i64 5]) (by simp [results, Try.results48, go_sem, s0, s1, s2, s3]) rfl ⟨rfl, (by first | exact below_two hB4 (by omega) (by omega) _ _ _ _ | exact (below_two hB4 (by omega) (by omega) _ _ _ _).drew)⟩
    · cases hv2 : vfB (p + c) ((d : Int) + e)
      · rw [if_neg (by simp)]
        go_enter Try.func48, Try.ntmps48
        go_wp2_with fail
        refine (l05Code_any p d _).mono ?_
        rintro e w1 ⟨rfl, hb1⟩
        obtain ⟨hc1, hf1, hs1⟩ := keepc hb1
        have hB1 : Below w.heap.size w w1 := Below.trans (by go_grown) (hb1.mono (by first | exact Nat.le_refl _ | (simp only [World.size_alloc]; omega)))
        try simp only [World.size_alloc] at hs1
        have hl1_0 : w.heap.size < w1.heap.size := by omega
        have hl1_1 : w.heap.size + 1 < w1.heap.size := by omega
        have hl1_2 : w.heap.size + 2 < w1.heap.size := by omega
        rw [h0]
        go_wp2_with fail
        refine (HP.out _).mono ?_
        rintro e w2 ⟨⟨A2, c2, rfl, ho2⟩, hb2⟩
        obtain ⟨hc2, hf2, hs2⟩ := keepc hb2
        have hB2 : Below w.heap.size w w2 := hB1.trans (hb2.mono (by have := hB1.size; omega))
        have hl2_0 : w.heap.size < w2.heap.size := by omega
        have hl2_1 : w.heap.size + 1 < w2.heap.size := by omega
        have hl2_2 : w.heap.size + 2 < w2.heap.size := by omega
        have hw := IRow.of_own ho2 (by omega) (fun z hz => by have := HR.out z hz; unfold Rng; omega)
        clear ho2
        go_wp2_with fail
        refine (HBd.out A2 _ c2 _ hw).mono ?_
        rintro e w3 ⟨rfl, hb3⟩
        obtain ⟨hc3, hf3, hs3⟩ := keepc hb3
        have hB3 : Below w.heap.size w w3 := hB2.trans (hb3.mono (by have := hB2.size; omega))
        have hl3_0 : w.heap.size < w3.heap.size := by omega
        have hl3_1 : w.heap.size + 1 < w3.heap.size := by omega
        have hl3_2 : w.heap.size + 2 < w3.heap.size := by omega
        have hZ : ∀ b j v, b < w.heap.size + 1 + 1 + 1 → (((w.alloc (.cells #[.int .i64 p, .int .i64 (d : Int)] 27)).alloc (.cells #[.int .i64 0, .int .i64 0] 27)).alloc (.cells #[.int .i64 0, .int .i64 0] 27)).cell? ⟨b, j, none⟩ = some v → w3.cell? ⟨b, j, none⟩ = some v := fun b j v hb h =>
          (hc3 _ _ (by omega)).trans ((hc2 _ _ (by omega)).trans ((hc1 _ _ (by simp; omega)).trans h))
        have hF : ∀ b j, b < w.heap.size + 1 + 1 + 1 → (((w.alloc (.cells #[.int .i64 p, .int .i64 (d : Int)] 27)).alloc (.cells #[.int .i64 0, .int .i64 0] 27)).alloc (.cells #[.int .i64 0, .int .i64 0] 27)).frozen? ⟨b, j, none⟩ = false → w3.frozen? ⟨b, j, none⟩ = false := fun b j hb h =>
          (hf3 _ _ (by omega)).trans ((hf2 _ _ (by omega)).trans ((hf1 _ _ (by simp; omega)).trans h))
        have HZ := Lib.hid hZ
        have HF := Lib.hid hF
        clear hZ hF
        go_wp2_with fail
        refine (l02Ok_any (p + a) ((d : Int) + b) _).mono ?_
        rintro e w4 ⟨rfl, hb4⟩
        have hB4 : Below w.heap.size w w4 := (((hB3.alloc (by omega) _).alloc (by simp; omega) _).alloc (by simp; omega) _).trans (hb4.mono (by simp; omega))
        have hs4 : w3.heap.size + 1 + 1 + 1 ≤ w4.heap.size := by simpa using hb4.size
        have kc : ∀ b j v, b < w3.heap.size → w3.cell? ⟨b, j, none⟩ = some v → w4.cell? ⟨b, j, none⟩ = some v := fun b j v hb h =>
          (hb4.cell (p := ⟨b, j, none⟩) (by simp; omega)).trans ((World.cell?_alloc_lt _ _ _ (by simp; omega)).trans ((World.cell?_alloc_lt _ _ _ (by simp; omega)).trans ((World.cell?_alloc_lt _ _ _ hb).trans h)))
        have kf : ∀ b j, b < w3.heap.size → w3.frozen? ⟨b, j, none⟩ = false → w4.frozen? ⟨b, j, none⟩ = false := fun b j hb h =>
          (hb4.frozen (p := ⟨b, j, none⟩) (by simp; omega)).trans ((World.frozen?_of_block (Below.heap_alloc _ _ _ (by simp; omega))).trans ((World.frozen?_of_block (Below.heap_alloc _ _ _ (by simp; omega))).trans ((World.frozen?_of_block (Below.heap_alloc _ _ _ hb)).trans h)))
        have z0 := kc _ _ _ (by omega) (HZ.out (w.heap.size + 1) 0 (.int .i64 0) (by omega) (by simp [go_sem]))
        have z1 := kc _ _ _ (by omega) (HZ.out (w.heap.size + 1) 1 (.int .i64 0) (by omega) (by simp [go_sem]))
        have y0 := kc _ _ _ (by omega) (HZ.out (w.heap.size + 1 + 1) 0 (.int .i64 0) (by omega) (newcellA (by simp) rfl))
        have y1 := kc _ _ _ (by omega) (HZ.out (w.heap.size + 1 + 1) 1 (.int .i64 0) (by omega) (newcellA (by simp) rfl))
        have fz0 := kf _ _ (by omega) (HF.out (w.heap.size + 1) 0 (by omega) (by simp [go_sem]))
        have fz1 := kf _ _ (by omega) (HF.out (w.heap.size + 1) 1 (by omega) (by simp [go_sem]))
        have fy0 := kf _ _ (by omega) (HF.out (w.heap.size + 1 + 1) 0 (by omega) (by simp [go_sem]))
        have fy1 := kf _ _ (by omega) (HF.out (w.heap.size + 1 + 1) 1 (by omega) (by simp [go_sem]))
        have l0 : w4.cell? ⟨w3.heap.size + 1, 0, none⟩ = some (.int .i64 (p + a)) := (hb4.cell (p := ⟨w3.heap.size + 1, 0, none⟩) (by simp)).trans ((World.cell?_alloc_lt _ _ _ (by simp)).trans (newcellA (by simp) rfl))
        have l1 : w4.cell? ⟨w3.heap.size + 1, 1, none⟩ = some (.int .i64 ((d : Int) + b)) := (hb4.cell (p := ⟨w3.heap.size + 1, 1, none⟩) (by simp)).trans ((World.cell?_alloc_lt _ _ _ (by simp)).trans (newcellA (by simp) rfl))
        have r0 : w4.cell? ⟨w3.heap.size + 1 + 1, 0, none⟩ = some (.int .i64 (p + c)) := (hb4.cell (p := ⟨w3.heap.size + 1 + 1, 0, none⟩) (by simp)).trans (newcellA (by simp) rfl)
        have r1 : w4.cell? ⟨w3.heap.size + 1 + 1, 1, none⟩ = some (.int .i64 ((d : Int) + e)) := (hb4.cell (p := ⟨w3.heap.size + 1 + 1, 1, none⟩) (by simp)).trans (newcellA (by simp) rfl)
        have hl4_1 : w.heap.size + 1 < w4.heap.size := by omega
        have hl4_2 : w.heap.size + 1 + 1 < w4.heap.size := by omega
        have hl4_3 : w3.heap.size + 1 < w4.heap.size := by omega
        have hl4_4 : w3.heap.size + 1 + 1 < w4.heap.size := by omega
        clear kc kf HZ HF hb4 hc1 hc2 hc3 hf1 hf2 hf3
        rw [hv1]
        go_wp2_with fail
        refine (l02Ok_any (p + c) ((d : Int) + e) _).mono ?_
        rintro e w5 ⟨rfl, hb5⟩
        have hB5 : Below w.heap.size w w5 := hB4.trans (hb5.mono (by omega))
        obtain ⟨hc5, hf5, hs5⟩ := keepc hb5
        rw [hv2]
        have z0' := (hc5 _ _ hl4_1).trans z0
        have z1' := (hc5 _ _ hl4_1).trans z1
        have y0' := (hc5 _ _ hl4_2).trans y0
        have y1' := (hc5 _ _ hl4_2).trans y1
        clear hb5
        go_wp2_with fail
        obtain ⟨s0, s1, s2, s3⟩ := two_set (W := w5) (show w.heap.size + 1 ≠ w.heap.size + 1 + 1 by omega) z0' z1' y0' y1' (.int .i64 0) (.int .i64 0) (.int .i64 0) (.int .i64 0)
        exact bodyPost_ret (v := .tuple #[.agg #[.int .i64 0, .int .i64 0], .agg #[.int .i64 0, .int .i64 0], .int .i64 5]) (by simp [results, Try.results48, go_sem, s0, s1, s2, s3]) rfl ⟨rfl, (by first | exact below_two hB5 (by omega) (by omega) _ _ _ _ | exact (below_two hB5 (by omega) (by omega) _ _ _ _).drew)⟩
      · rw [if_pos (by simp)]
        go_enter Try.func48, Try.ntmps48
        go_wp2_with fail
        refine (l05Code_any p d _).mono ?_
        rintro e w1 ⟨rfl, hb1⟩
        obtain ⟨hc1, hf1, hs1⟩ := keepc hb1
        have hB1 : Below w.heap.size w w1 := Below.trans (by go_grown) (hb1.mono (by first | exact Nat.le_refl _ | (simp only [World.size_alloc]; omega)))
        try simp only [World.size_alloc] at hs1
        have hl1_0 : w.heap.size < w1.heap.size := by omega
        have hl1_1 : w.heap.size + 1 < w1.heap.size := by omega
        have hl1_2 : w.heap.size + 2 < w1.heap.size := by omega
        rw [h0]
        go_wp2_with fail
        refine (HP.out _).mono ?_
        rintro e w2 ⟨⟨A2, c2, rfl, ho2⟩, hb2⟩
        obtain ⟨hc2, hf2, hs2⟩ := keepc hb2
        have hB2 : Below w.heap.size w w2 := hB1.trans (hb2.mono (by have := hB1.size; omega))
        have hl2_0 : w.heap.size < w2.heap.size := by omega
        have hl2_1 : w.heap.size + 1 < w2.heap.size := by omega
        have hl2_2 : w.heap.size + 2 < w2.heap.size := by omega
        have hw := IRow.of_own ho2 (by omega) (fun z hz => by have := HR.out z hz; unfold Rng; omega)
        clear ho2
        go_wp2_with fail
        refine (HBd.out A2 _ c2 _ hw).mono ?_
        rintro e w3 ⟨rfl, hb3⟩
        obtain ⟨hc3, hf3, hs3⟩ := keepc hb3
        have hB3 : Below w.heap.size w w3 := hB2.trans (hb3.mono (by have := hB2.size; omega))
        have hl3_0 : w.heap.size < w3.heap.size := by omega
        have hl3_1 : w.heap.size + 1 < w3.heap.size := by omega
        have hl3_2 : w.heap.size + 2 < w3.heap.size := by omega
        have hZ : ∀ b j v, b < w.heap.size + 1 + 1 + 1 → (((w.alloc (.cells #[.int .i64 p, .int .i64 (d : Int)] 27)).alloc (.cells #[.int .i64 0, .int .i64 0] 27)).alloc (.cells #[.int .i64 0, .int .i64 0] 27)).cell? ⟨b, j, none⟩ = some v → w3.cell? ⟨b, j, none⟩ = some v := fun b j v hb h =>
          (hc3 _ _ (by omega)).trans ((hc2 _ _ (by omega)).trans ((hc1 _ _ (by simp; omega)).trans h))
        have hF : ∀ b j, b < w.heap.size + 1 + 1 + 1 → (((w.alloc (.cells #[.int .i64 p, .int .i64 (d : Int)] 27)).alloc (.cells #[.int .i64 0, .int .i64 0] 27)).alloc (.cells #[.int .i64 0, .int .i64 0] 27)).frozen? ⟨b, j, none⟩ = false → w3.frozen? ⟨b, j, none⟩ = false := fun b j hb h =>
          (hf3 _ _ (by omega)).trans ((hf2 _ _ (by omega)).trans ((hf1 _ _ (by simp; omega)).trans h))
        have HZ := Lib.hid hZ
        have HF := Lib.hid hF
        clear hZ hF
        go_wp2_with fail
        refine (l02Ok_any (p + a) ((d : Int) + b) _).mono ?_
        rintro e w4 ⟨rfl, hb4⟩
        have hB4 : Below w.heap.size w w4 := (((hB3.alloc (by omega) _).alloc (by simp; omega) _).alloc (by simp; omega) _).trans (hb4.mono (by simp; omega))
        have hs4 : w3.heap.size + 1 + 1 + 1 ≤ w4.heap.size := by simpa using hb4.size
        have kc : ∀ b j v, b < w3.heap.size → w3.cell? ⟨b, j, none⟩ = some v → w4.cell? ⟨b, j, none⟩ = some v := fun b j v hb h =>
          (hb4.cell (p := ⟨b, j, none⟩) (by simp; omega)).trans ((World.cell?_alloc_lt _ _ _ (by simp; omega)).trans ((World.cell?_alloc_lt _ _ _ (by simp; omega)).trans ((World.cell?_alloc_lt _ _ _ hb).trans h)))
        have kf : ∀ b j, b < w3.heap.size → w3.frozen? ⟨b, j, none⟩ = false → w4.frozen? ⟨b, j, none⟩ = false := fun b j hb h =>
          (hb4.frozen (p := ⟨b, j, none⟩) (by simp; omega)).trans ((World.frozen?_of_block (Below.heap_alloc _ _ _ (by simp; omega))).trans ((World.frozen?_of_block (Below.heap_alloc _ _ _ (by simp; omega))).trans ((World.frozen?_of_block (Below.heap_alloc _ _ _ hb)).trans h)))
        have z0 := kc _ _ _ (by omega) (HZ.out (w.heap.size + 1) 0 (.int .i64 0) (by omega) (by simp [go_sem]))
        have z1 := kc _ _ _ (by omega) (HZ.out (w.heap.size + 1) 1 (.int .i64 0) (by omega) (by simp [go_sem]))
        have y0 := kc _ _ _ (by omega) (HZ.out (w.heap.size + 1 + 1) 0 (.int .i64 0) (by omega) (newcellA (by simp) rfl))
        have y1 := kc _ _ _ (by omega) (HZ.out (w.heap.size + 1 + 1) 1 (.int .i64 0) (by omega) (newcellA (by simp) rfl))
        have fz0 := kf _ _ (by omega) (HF.out (w.heap.size + 1) 0 (by omega) (by simp [go_sem]))
        have fz1 := kf _ _ (by omega) (HF.out (w.heap.size + 1) 1 (by omega) (by simp [go_sem]))
        have fy0 := kf _ _ (by omega) (HF.out (w.heap.size + 1 + 1) 0 (by omega) (by simp [go_sem]))
        have fy1 := kf _ _ (by omega) (HF.out (w.heap.size + 1 + 1) 1 (by omega) (by simp [go_sem]))
        have l0 : w4.cell? ⟨w3.heap.size + 1, 0, none⟩ = some (.int .i64 (p + a)) := (hb4.cell (p := ⟨w3.heap.size + 1, 0, none⟩) (by simp)).trans ((World.cell?_alloc_lt _ _ _ (by simp)).trans (newcellA (by simp) rfl))
        have l1 : w4.cell? ⟨w3.heap.size + 1, 1, none⟩ = some (.int .i64 ((d : Int) + b)) := (hb4.cell (p := ⟨w3.heap.size + 1, 1, none⟩) (by simp)).trans ((World.cell?_alloc_lt _ _ _ (by simp)).trans (newcellA (by simp) rfl))
        have r0 : w4.cell? ⟨w3.heap.size + 1 + 1, 0, none⟩ = some (.int .i64 (p + c)) := (hb4.cell (p := ⟨w3.heap.size + 1 + 1, 0, none⟩) (by simp)).trans (newcellA (by simp) rfl)
        have r1 : w4.cell? ⟨w3.heap.size + 1 + 1, 1, none⟩ = some (.int .i64 ((d : Int) + e)) := (hb4.cell (p := ⟨w3.heap.size + 1 + 1, 1, none⟩) (by simp)).trans (newcellA (by simp) rfl)
        have hl4_1 : w.heap.size + 1 < w4.heap.size := by omega
        have hl4_2 : w.heap.size + 1 + 1 < w4.heap.size := by omega
        have hl4_3 : w3.heap.size + 1 < w4.heap.size := by omega
        have hl4_4 : w3.heap.size + 1 + 1 < w4.heap.size := by omega
        clear kc kf HZ HF hb4 hc1 hc2 hc3 hf1 hf2 hf3
        rw [hv1]
        go_wp2_with fail
        refine (l02Ok_any (p + c) ((d : Int) + e) _).mono ?_
        rintro e w5 ⟨rfl, hb5⟩
        have hB5 : Below w.heap.size w w5 := hB4.trans (hb5.mono (by omega))
        obtain ⟨hc5, hf5, hs5⟩ := keepc hb5
        rw [hv2]
        have z0' := (hc5 _ _ hl4_1).trans z0
        have z1' := (hc5 _ _ hl4_1).trans z1
        have y0' := (hc5 _ _ hl4_2).trans y0
        have y1' := (hc5 _ _ hl4_2).trans y1
        clear hb5
        go_wp2_with fail
        go_region
        go_wp2_with fail
        obtain ⟨s0, s1, s2, s3⟩ := two_set (W := w5) (show w.heap.size + 1 ≠ w.heap.size + 1 + 1 by omega) z0' z1' y0' y1' (.int .i64 (p + a)) (.int .i64 ((d : Int) + b)) (.int .i64 (p + c)) (.int .i64 ((d : Int) + e))
        exact bodyPost_ret (v := .tuple #[.agg #[.int .i64 (p + a), .int .i64 ((d : Int) + b)], .agg #[.int .i64 (p + c), .int .i64 ((d : Int) + e)], .int .i64 0]) (by simp [results, Try.results48, go_sem, s0, s1, s2, s3]) rfl ⟨rfl, (by first | exact below_two hB5 (by omega) (by omega) _ _ _ _ | exact (below_two hB5 (by omega) (by omega) _ _ _ _).drew)⟩
  · rw [show chiT p q = (0, 0, 0, 0, posC p q) from if_neg h0]
    have HC := Lib.hid (fun w => l05Code_any p q w)
    have hne : (posC p q != 0) = true := by rw [bne_iff_ne]; exact h0
    generalize posC p q = k at *
    clear h0
    go_enter Try.func48, Try.ntmps48
    go_wp2_with fail
    refine (HC.out _).mono ?_
    rintro e w1 ⟨rfl, hb1⟩
    obtain ⟨hc1, hf1, hs1⟩ := keepc hb1
    have hB1 : Below w.heap.size w w1 := Below.trans (by go_grown) (hb1.mono (by first | exact Nat.le_refl _ | (simp only [World.size_alloc]; omega)))
    try simp only [World.size_alloc] at hs1
    have hl1_0 : w.heap.size < w1.heap.size := by omega
    have hl1_1 : w.heap.size + 1 < w1.heap.size := by omega
    have hl1_2 : w.heap.size + 2 < w1.heap.size := by omega
    have hZ : ∀ b j v, b < w.heap.size + 1 + 1 + 1 → (((w.alloc (.cells #[.int .i64 p, .int .i64 q] 27)).alloc (.cells #[.int .i64 0, .int .i64 0] 27)).alloc (.cells #[.int .i64 0, .int .i64 0] 27)).cell? ⟨b, j, none⟩ = some v → w1.cell? ⟨b, j, none⟩ = some v := fun b j v hb h =>
      (hc1 _ _ (by simp; omega)).trans h
    have z0 := hZ (w.heap.size + 1) 0 (.int .i64 0) (by omega) (by simp [go_sem])
    have z1 := hZ (w.heap.size + 1) 1 (.int .i64 0) (by omega) (by simp [go_sem])
    have y0 := hZ (w.heap.size + 1 + 1) 0 (.int .i64 0) (by omega) (by simp [go_sem])
    have y1 := hZ (w.heap.size + 1 + 1) 1 (.int .i64 0) (by omega) (by simp [go_sem])
    clear hZ
    have hl1_2' : w.heap.size + 1 + 1 < w1.heap.size := by omega
    go_wp2_with fail
    obtain ⟨s0, s1, s2, s3⟩ := two_set (W := w1) (show w.heap.size + 1 ≠ w.heap.size + 1 + 1 by omega) z0 z1 y0 y1 (.int .i64 0) (.int .i64 0) (.int .i64 0) (.int .i64 0)
    exact bodyPost_ret (v := .tuple #[.agg #[.int .i64 0, .int .i64 0], .agg #[.int .i64 0, .int .i64 0], .int .i64 k]) (by simp [results, Try.results48, go_sem, s0, s1, s2, s3]) rfl ⟨rfl, below_two hB1 (by omega) (by omega) _ _ _ _⟩
set_option maxHeartbeats 1600000 in
theorem fnExactChildrenOf_walk (p q : Int) (_ : -9223372036854775808 ≤ p) (_ : p ≤ 9223372036854775807) (_ : -9223372036854775808 ≤ q) (_ : q ≤ 9223372036854775807) (w : World) :
    Calls Try.prog 14 #[.agg #[.int .i64 p, .int .i64 q]] w fun e w' => e = .returned (.bool true) ∧ Below w.heap.size w w' := by
  obtain ⟨a, b, c, d, k, HS, HI⟩ : ∃ a b c d k : Int, Hid (∀ w, Calls Try.prog 48 #[.agg #[.int .i64 p, .int .i64 q]] w fun e w' => e = .returned (.tuple #[.agg #[.int .i64 a, .int .i64 b], .agg #[.int .i64 c, .int .i64 d], .int .i64 k]) ∧ Below w.heap.size w w') ∧ Hid (∀ w, Calls Try.prog 49 #[.agg #[.int .i64 p, .int .i64 q]] w fun e w' => e = .returned (.tuple #[.agg #[.int .i64 a, .int .i64 b], .agg #[.int .i64 c, .int .i64 d], .int .i64 k]) ∧ Below w.heap.size w w') :=
    ⟨_, _, _, _, _, fun w => specChi_any p q ⟨by assumption, by assumption⟩ ⟨by assumption, by assumption⟩ w, fun w => implChi_any p q ⟨by assumption, by assumption⟩ ⟨by assumption, by assumption⟩ w⟩
  go_enter Try.func14, Try.ntmps14
  go_wp2_with fail
  refine (toFraction_any p q _).mono ?_
  rintro e w1 ⟨rfl, hb1⟩
  obtain ⟨hc1, hf1, hs1⟩ := keepc hb1
  have hB1 : Below w.heap.size w w1 := Below.trans (by go_grown) (hb1.mono (by first | exact Nat.le_refl _ | (simp only [World.size_alloc]; omega)))
  try simp only [World.size_alloc] at hs1
  have hl1_0 : w.heap.size < w1.heap.size := by omega
  go_wp2_with fail
  refine (HS.out _).mono ?_
  rintro e w2 ⟨rfl, hb2⟩
  obtain ⟨hc2, hf2, hs2⟩ := keepc hb2
  have hB2 : Below w.heap.size w w2 := hB1.trans (hb2.mono (by have := hB1.size; omega))
  have hl2_0 : w.heap.size < w2.heap.size := by omega
  go_wp2_with fail
  refine (toFraction_any p q _).mono ?_
  rintro e w3 ⟨rfl, hd3⟩
  have hB3 : Below w.heap.size w w3 := ((hB2.alloc (by omega) _).alloc (by simp; omega) _).trans (hd3.mono (by simp; omega))
  have u0 : w3.cell? ⟨w2.heap.size, 0, none⟩ = some (.int .i64 a) := (hd3.cell (p := ⟨w2.heap.size, 0, none⟩) (by simp; omega)).trans ((World.cell?_alloc_lt _ _ _ (by simp)).trans (newcellA rfl rfl))
  have u1 : w3.cell? ⟨w2.heap.size, 1, none⟩ = some (.int .i64 b) := (hd3.cell (p := ⟨w2.heap.size, 1, none⟩) (by simp; omega)).trans ((World.cell?_alloc_lt _ _ _ (by simp)).trans (newcellA rfl rfl))
  have u2 : w3.cell? ⟨w2.heap.size + 1, 0, none⟩ = some (.int .i64 c) := (hd3.cell (p := ⟨w2.heap.size + 1, 0, none⟩) (by simp)).trans (newcellA (by simp) rfl)
  have u3 : w3.cell? ⟨w2.heap.size + 1, 1, none⟩ = some (.int .i64 d) := (hd3.cell (p := ⟨w2.heap.size + 1, 1, none⟩) (by simp)).trans (newcellA (by simp) rfl)
  have hl3 : w2.heap.size + 1 < w3.heap.size := by have := hd3.size; simp at this; omega
  clear hd3
  go_wp2_with fail
  refine (HI.out _).mono ?_
  rintro e w4 ⟨rfl, hd4⟩
  have hB4 : Below w.heap.size w w4 := hB3.trans (hd4.mono hB3.size)
  replace u0 := (hd4.cell (p := ⟨w2.heap.size, 0, none⟩) (by show w2.heap.size < _; omega)).trans u0
  replace u1 := (hd4.cell (p := ⟨w2.heap.size, 1, none⟩) (by show w2.heap.size < _; omega)).trans u1
  replace u2 := (hd4.cell (p := ⟨w2.heap.size + 1, 0, none⟩) hl3).trans u2
  replace u3 := (hd4.cell (p := ⟨w2.heap.size + 1, 1, none⟩) hl3).trans u3
  have hl4 : w2.heap.size + 1 < w4.heap.size := Nat.lt_of_lt_of_le hl3 hd4.size
  have hl4' : w2.heap.size < w4.heap.size := by omega
  clear hd4
  go_wp2_with fail
  refine (eqFraction_same a b _).mono ?_
  rintro e w5 ⟨rfl, hd5⟩
  have hB5 : Below w.heap.size w w5 := ((hB4.alloc hB4.size _).alloc (by have := hB4.size; simp; omega) _).trans (hd5.mono (by have := hB4.size; simp; omega))
  have v2 : w5.cell? ⟨w2.heap.size + 1, 0, none⟩ = some (.int .i64 c) := (hd5.cell (p := ⟨w2.heap.size + 1, 0, none⟩) (by simp; omega)).trans ((World.cell?_alloc_lt _ _ _ (by simp; omega)).trans ((World.cell?_alloc_lt _ _ _ hl4).trans u2))
  have v3 : w5.cell? ⟨w2.heap.size + 1, 1, none⟩ = some (.int .i64 d) := (hd5.cell (p := ⟨w2.heap.size + 1, 1, none⟩) (by simp; omega)).trans ((World.cell?_alloc_lt _ _ _ (by simp; omega)).trans ((World.cell?_alloc_lt _ _ _ hl4).trans u3))
  have y2 : w5.cell? ⟨w4.heap.size + 1, 0, none⟩ = some (.int .i64 c) := (hd5.cell (p := ⟨w4.heap.size + 1, 0, none⟩) (by simp)).trans (newcellA (by simp) rfl)
  have y3 : w5.cell? ⟨w4.heap.size + 1, 1, none⟩ = some (.int .i64 d) := (hd5.cell (p := ⟨w4.heap.size + 1, 1, none⟩) (by simp)).trans (newcellA (by simp) rfl)
  clear hd5
  go_wp2_with fail
  refine (eqFraction_same c d _).mono ?_
  rintro e w6 ⟨rfl, hd6⟩
  go_wp2_with fail
  go_ret
  exact ⟨rfl, hB5.trans (hd6.mono hB5.size)⟩
end Go.Proofs.Ytbpaihbpaeoljaa
