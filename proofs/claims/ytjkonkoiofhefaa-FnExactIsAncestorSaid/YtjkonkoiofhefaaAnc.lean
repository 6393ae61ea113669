/-
  Ancestors in the tree: contracts of the exported functions; the walk of the law FnExactIsAncestor.
  No condition but those of the law's own text.
-/
import Derived.Test.YtjkonkoiofhefaaProg
import Derived.Test.YtjkonkoiofhefaaMem
import Derived.Test.YtjkonkoiofhefaaBasic
import Derived.Test.YtjkonkoiofhefaaAllk
import Derived.Test.YtjkonkoiofhefaaInts
import Derived.Test.YtjkonkoiofhefaaFrac
import Derived.Test.YtjkonkoiofhefaaFrac2
import Derived.Test.YtjkonkoiofhefaaFrac3
import Derived.Test.YtjkonkoiofhefaaOwn
import Derived.Test.YtjkonkoiofhefaaShort
import Derived.Test.YtjkonkoiofhefaaExp
import Derived.Test.YtjkonkoiofhefaaPthM
import Derived.Test.YtjkonkoiofhefaaPth
import Derived.Test.YtjkonkoiofhefaaFat
import Derived.Test.YtjkonkoiofhefaaCmn
import Derived.Test.YtjkonkoiofhefaaLaw2
import Derived.Handy
import Derived.BigQuiet
import Derived.Deep.QuietTactic
import Derived.Deep.RegionHeld3
import Derived.Deep.CutBlock
import Derived.Deep.DeepCutAuto
namespace Go.Proofs.Ytjkonkoiofhefaa
open Go.RowKit
set_option linter.unusedVariables false
set_option linter.unusedSimpArgs false
attribute [local go_sem ↓] Go.wp_at_zero Go.wp_at_succ

theorem eqFraT (a b c d : Int) (w : World) : (Op.equalIn 10000 25 (.agg #[.int .i64 a, .int .i64 b]) (.agg #[.int .i64 c, .int .i64 d])).run Try.prog w = .ok (a == c && b == d) w := by
  have u3 := Try.underlying2
  have hS : Try.prog.underlying 25 = some (.struct (Try.prog.fieldsOf 25)) := by kernel_rfl
  have hp : Try.prog.stoodInHeld 25 = false := by kernel_rfl
  rw [show (10000 : Nat) = 9999 + 1 from rfl, run_equalIn_agg w 9999 25 _ _ hS hp]
  simp only [Program.fieldsOf, Try.underlying25]
  go_simp
  by_cases h1 : a = c <;> by_cases h2 : b = d <;> simp [h1, h2]
theorem prow_two {w : World} {b : Nat} {p q r s : Int} (c0 : w.cell? ⟨b, 0, none⟩ = some (.int .i64 p)) (c1 : w.cell? ⟨b, 1, none⟩ = some (.int .i64 q)) (c2 : w.cell? ⟨b, 2, none⟩ = some (.int .i64 r)) (c3 : w.cell? ⟨b, 3, none⟩ = some (.int .i64 s))
    (hp : Rng p) (hq : Rng q) (hr : Rng r) (hs : Rng s) : PRow w (some ⟨b, 0, none⟩) 2 [(p, q), (r, s)] := by
  refine ⟨rfl, by omega, ?_, ?_⟩
  · intro z hz; simp at hz; rcases hz with rfl | rfl; exact ⟨hp, hq⟩; exact ⟨hr, hs⟩
  · rintro (_ | _ | _ | _ | j) u hu
    · simp [prs] at hu; subst hu; exact ⟨_, rfl, by simpa [addr_zero] using c0⟩
    · simp [prs] at hu; subst hu; exact ⟨_, rfl, by simpa [addr_zero] using c1⟩
    · simp [prs] at hu; subst hu; exact ⟨_, rfl, by simpa [addr_zero] using c2⟩
    · simp [prs] at hu; subst hu; exact ⟨_, rfl, by simpa [addr_zero] using c3⟩
    · simp [prs] at hu
/-- The code of two fractions that must be positive. -/
def posC2 (p q r s : Int) : Int := posL [(p, q), (r, s)]
theorem posC2_one {p q r s : Int} (h : vfB p q = false ∨ vfB r s = false) : posC2 p q r s = 1 := by
  unfold posC2 posL
  rcases h with h | h <;> simp [allK, vfE, h]
theorem posC2_two {p q r s : Int} (h : vfB p q = true) (h' : vfB r s = true) (hn : p ≤ 0 ∨ r ≤ 0) : posC2 p q r s = 2 := by
  unfold posC2 posL
  simp [allK, vfE, ppE, h, h']; omega
theorem posC2_zero {p q r s : Int} (h : vfB p q = true) (h' : vfB r s = true) (hp : 0 < p) (hr : 0 < r) : posC2 p q r s = 0 := by
  unfold posC2 posL
  simp [allK, vfE, ppE, h, h', hp, hr]
theorem posC2_ok {p q r s : Int} (h0 : posC2 p q r s = 0) : (vfB p q = true ∧ 0 < p) ∧ vfB r s = true ∧ 0 < r := by
  cases h : vfB p q with
  | false => rw [posC2_one (.inl h)] at h0; cases h0
  | true =>
    cases h' : vfB r s with
    | false => rw [posC2_one (.inr h')] at h0; cases h0
    | true =>
      rcases (by omega : (p ≤ 0 ∨ r ≤ 0) ∨ (0 < p ∧ 0 < r)) with hn | ⟨hp, hr⟩
      · rw [posC2_two h h' hn] at h0; cases h0
      · exact ⟨⟨rfl, hp⟩, rfl, hr⟩
/-- The fraction at the end of the common beginning, and whether it is the first one. -/
def ancX (p q r s : Int) : Int × Int × Bool := fatT (comL (pthL p q.toNat) (pthL r s.toNat))
def ancB (p q r s : Int) : Bool := decide (posC2 p q r s = 0) && (!(p == r && q == s) && ((ancX p q r s).1 == p && (ancX p q r s).2.1 == q))

/-- The cells of a new block behind a call. -/
theorem new_keep {W w1 : World} {g : Nat} {u v : Value} (h : W.cell? ⟨g, 0, none⟩ = some u ∧ W.cell? ⟨g, 1, none⟩ = some v ∧ W.frozen? ⟨g, 0, none⟩ = false ∧ W.frozen? ⟨g, 1, none⟩ = false) (hb : Below W.heap.size W w1) :
    w1.cell? ⟨g, 0, none⟩ = some u ∧ w1.cell? ⟨g, 1, none⟩ = some v ∧ w1.frozen? ⟨g, 0, none⟩ = false ∧ w1.frozen? ⟨g, 1, none⟩ = false :=
  ⟨(hb.cell (World.block_lt_of_cell? W _ h.1)).trans h.1, (hb.cell (World.block_lt_of_cell? W _ h.2.1)).trans h.2.1, (hb.frozen (World.block_lt_of_cell? W _ h.1)).trans h.2.2.1, (hb.frozen (World.block_lt_of_cell? W _ h.2.1)).trans h.2.2.2⟩
theorem new_call {W w1 : World} {t : TypeId} {u v : Value} (hb : Below (W.alloc (.cells #[u, v] t)).heap.size (W.alloc (.cells #[u, v] t)) w1) :
    w1.cell? ⟨W.heap.size, 0, none⟩ = some u ∧ w1.cell? ⟨W.heap.size, 1, none⟩ = some v ∧ w1.frozen? ⟨W.heap.size, 0, none⟩ = false ∧ w1.frozen? ⟨W.heap.size, 1, none⟩ = false :=
  new_keep ⟨newcellA rfl rfl, newcellA rfl rfl, by simp, by simp⟩ hb
theorem new_callD {W w1 : World} {t : TypeId} {u v : Value} (hb : Below (W.drew.alloc (.cells #[u, v] t)).heap.size (W.drew.alloc (.cells #[u, v] t)) w1) :
    w1.cell? ⟨W.heap.size, 0, none⟩ = some u ∧ w1.cell? ⟨W.heap.size, 1, none⟩ = some v ∧ w1.frozen? ⟨W.heap.size, 0, none⟩ = false ∧ w1.frozen? ⟨W.heap.size, 1, none⟩ = false :=
  new_call (W := W.drew) hb
theorem new_callE {W w1 : World} {t : TypeId} {u v : Value} (hb : Below (W.alloc (.cells #[u, v] t)).drew.heap.size (W.alloc (.cells #[u, v] t)).drew w1) :
    w1.cell? ⟨W.heap.size, 0, none⟩ = some u ∧ w1.cell? ⟨W.heap.size, 1, none⟩ = some v ∧ w1.frozen? ⟨W.heap.size, 0, none⟩ = false ∧ w1.frozen? ⟨W.heap.size, 1, none⟩ = false :=
  new_keep (W := (W.alloc (.cells #[u, v] t)).drew) ⟨newcellA (W := W) rfl rfl, newcellA (W := W) rfl rfl, by simp, by simp⟩ hb

set_option maxHeartbeats 800000 in
theorem l05Two_any (p q r s : Int) (w : World) :
    Calls Try.prog 63 #[.agg #[.int .i64 p, .int .i64 q], .agg #[.int .i64 r, .int .i64 s]] w fun e w' => e = .returned (.int .i64 (posC2 p q r s)) ∧ Below w.heap.size w w' := by
  have H1 := Lib.hid (fun w => l02Ok_any p q w)
  have H2 := Lib.hid (fun w => l02Ok_any r s w)
  cases h : vfB p q
  · rw [posC2_one (.inl h)]
    rw [h] at H1
    go_enter Try.func63, Try.ntmps63
    go_wp2_with fail
    refine (H1.out _).mono ?_
    rintro e w1 ⟨rfl, hb1⟩
    obtain ⟨hc1, hf1, hs1⟩ := keepc hb1
    have hB1 : Below w.heap.size w w1 := Below.trans (by go_grown) (hb1.mono (by first | exact Nat.le_refl _ | (simp only [World.size_alloc]; omega)))
    try simp only [World.size_alloc] at hs1
    have hl1_0 : w.heap.size < w1.heap.size := by omega
    have hl1_1 : w.heap.size + 1 < w1.heap.size := by omega
    go_wp2_with fail
    go_ret
    exact ⟨rfl, hB1⟩
  · rw [h] at H1
    cases h' : vfB r s
    · rw [posC2_one (.inr h')]
      rw [h'] at H2
      go_enter Try.func63, Try.ntmps63
      go_wp2_with fail
      refine (H1.out _).mono ?_
      rintro e w1 ⟨rfl, hb1⟩
      obtain ⟨hc1, hf1, hs1⟩ := keepc hb1
      have hB1 : Below w.heap.size w w1 := Below.trans (by go_grown) (hb1.mono (by first | exact Nat.le_refl _ | (simp only [World.size_alloc]; omega)))
      try simp only [World.size_alloc] at hs1
      have hl1_0 : w.heap.size < w1.heap.size := by omega
      have hl1_1 : w.heap.size + 1 < w1.heap.size := by omega
      go_wp2_with fail
      refine (H2.out _).mono ?_
      rintro e w2 ⟨rfl, hb2⟩
      obtain ⟨hc2, hf2, hs2⟩ := keepc hb2
      have hB2 : Below w.heap.size w w2 := hB1.trans (hb2.mono (by have := hB1.size; omega))
      have hl2_0 : w.heap.size < w2.heap.size := by omega
      have hl2_1 : w.heap.size + 1 < w2.heap.size := by omega
      go_wp2_with fail
      go_ret
      exact ⟨rfl, hB2⟩
    · rw [h'] at H2
      rcases (by omega : p ≤ 0 ∨ (0 < p ∧ r ≤ 0) ∨ (0 < p ∧ 0 < r)) with hp | ⟨hp, hr⟩ | ⟨hp, hr⟩
      · rw [posC2_two h h' (.inl hp)]
        clear h h'
        go_enter Try.func63, Try.ntmps63
        go_wp2_with fail
        refine (H1.out _).mono ?_
        rintro e w1 ⟨rfl, hb1⟩
        obtain ⟨hc1, hf1, hs1⟩ := keepc hb1
        have hB1 : Below w.heap.size w w1 := Below.trans (by go_grown) (hb1.mono (by first | exact Nat.le_refl _ | (simp only [World.size_alloc]; omega)))
        try simp only [World.size_alloc] at hs1
        have hl1_0 : w.heap.size < w1.heap.size := by omega
        have hl1_1 : w.heap.size + 1 < w1.heap.size := by omega
        go_wp2_with fail
        refine (H2.out _).mono ?_
        rintro e w2 ⟨rfl, hb2⟩
        obtain ⟨hc2, hf2, hs2⟩ := keepc hb2
        have hB2 : Below w.heap.size w w2 := hB1.trans (hb2.mono (by have := hB1.size; omega))
        have hl2_0 : w.heap.size < w2.heap.size := by omega
        have hl2_1 : w.heap.size + 1 < w2.heap.size := by omega
        go_wp2_with fail
        go_ret
        exact ⟨rfl, hB2⟩
      · rw [posC2_two h h' (.inr hr)]
        have hp' : ¬ p ≤ 0 := by omega
        clear h h'
        go_enter Try.func63, Try.ntmps63
        go_wp2_with fail
        refine (H1.out _).mono ?_
        rintro e w1 ⟨rfl, hb1⟩
        obtain ⟨hc1, hf1, hs1⟩ := keepc hb1
        have hB1 : Below w.heap.size w w1 := Below.trans (by go_grown) (hb1.mono (by first | exact Nat.le_refl _ | (simp only [World.size_alloc]; omega)))
        try simp only [World.size_alloc] at hs1
        have hl1_0 : w.heap.size < w1.heap.size := by omega
        have hl1_1 : w.heap.size + 1 < w1.heap.size := by omega
        go_wp2_with fail
        refine (H2.out _).mono ?_
        rintro e w2 ⟨rfl, hb2⟩
        obtain ⟨hc2, hf2, hs2⟩ := keepc hb2
        have hB2 : Below w.heap.size w w2 := hB1.trans (hb2.mono (by have := hB1.size; omega))
        have hl2_0 : w.heap.size < w2.heap.size := by omega
        have hl2_1 : w.heap.size + 1 < w2.heap.size := by omega
        go_wp2_with fail
        go_ret
        exact ⟨rfl, hB2⟩
      · rw [posC2_zero h h' hp hr]
        have hp' : ¬ p ≤ 0 := by omega
        have hr' : ¬ r ≤ 0 := by omega
        clear h h'
        go_enter Try.func63, Try.ntmps63
        go_wp2_with fail
        refine (H1.out _).mono ?_
        rintro e w1 ⟨rfl, hb1⟩
        obtain ⟨hc1, hf1, hs1⟩ := keepc hb1
        have hB1 : Below w.heap.size w w1 := Below.trans (by go_grown) (hb1.mono (by first | exact Nat.le_refl _ | (simp only [World.size_alloc]; omega)))
        try simp only [World.size_alloc] at hs1
        have hl1_0 : w.heap.size < w1.heap.size := by omega
        have hl1_1 : w.heap.size + 1 < w1.heap.size := by omega
        go_wp2_with fail
        refine (H2.out _).mono ?_
        rintro e w2 ⟨rfl, hb2⟩
        obtain ⟨hc2, hf2, hs2⟩ := keepc hb2
        have hB2 : Below w.heap.size w w2 := hB1.trans (hb2.mono (by have := hB1.size; omega))
        have hl2_0 : w.heap.size < w2.heap.size := by omega
        have hl2_1 : w.heap.size + 1 < w2.heap.size := by omega
        go_wp2_with fail
        go_ret
        exact ⟨rfl, hB2⟩
set_option maxRecDepth 100000 in
set_option maxHeartbeats 3200000 in
theorem implAnc_any (p q r s : Int) (hp : Rng p) (hq : Rng q) (hr : Rng r) (hs : Rng s) (w : World) :
    Calls Try.prog 26 #[.agg #[.int .i64 p, .int .i64 q], .agg #[.int .i64 r, .int .i64 s]] w fun e w' => e = .returned (.tuple #[.bool (ancB p q r s), .int .i64 (posC2 p q r s)]) ∧ Below w.heap.size w w' := by
  have HC := Lib.hid (checkPositive_any (some ⟨w.heap.size + 1 + 1, 0, none⟩) 2 2 [(p, q), (r, s)] (((w.alloc (.cells #[.int .i64 p, .int .i64 q] 25)).alloc (.cells #[.int .i64 r, .int .i64 s] 25)).alloc (.cells #[.int .i64 p, .int .i64 q, .int .i64 r, .int .i64 s] 25)) (prow_two (newcellA (by simp) rfl) (newcellA (by simp) rfl) (newcellA (by simp) rfl) (newcellA (by simp) rfl) hp hq hr hs))
  rw [show posL [(p, q), (r, s)] = posC2 p q r s from rfl] at HC
  by_cases h0 : posC2 p q r s = 0
  · obtain ⟨⟨hv, hpos⟩, hv', hpos'⟩ := posC2_ok h0
    obtain ⟨v1, v2, v3, v4, _⟩ := vfB_iff.1 hv
    obtain ⟨v1', v2', v3', v4', _⟩ := vfB_iff.1 hv'
    obtain ⟨d, rfl⟩ := Int.eq_ofNat_of_zero_le (show 0 ≤ q by omega)
    obtain ⟨d', rfl⟩ := Int.eq_ofNat_of_zero_le (show 0 ≤ s by omega)
    rw [show ancB p d r d' = (!(p == r && (d : Int) == d') && ((ancX p d r d').1 == p && (ancX p d r d').2.1 == (d : Int))) from by unfold ancB; rw [decide_eq_true h0, Bool.true_and]]
    rw [show ancX p d r d' = fatT (comL (pthL p d) (pthL r d')) from by unfold ancX; rw [Int.toNat_natCast, Int.toNat_natCast]]
    rw [h0] at HC ⊢
    have HPa := Lib.hid (fun w => pathTo_any p d w v3 v4 (by omega) (by omega))
    have HPb := Lib.hid (fun w => pathTo_any r d' w v3' v4' (by omega) (by omega))
    have oka := pth_ok (p := p) (d := d) (by omega) v4 (by omega) (by omega)
    have okb := pth_ok (p := r) (d := d') (by omega) v4' (by omega) (by omega)
    generalize pthL p d = za at *
    generalize pthL r d' = zb at *
    have okc : PthOk (comL za zb) := trm_ok (comR_ok oka okb)
    have HM := Lib.hid (fun A1 n1 c1 A2 n2 c2 w h h' => commonPath_any A1 n1 c1 za A2 n2 c2 zb w h h' oka okb)
    generalize comL za zb = zc at *
    have HFa := Lib.hid (fun A n c w h => fractionAt_any A n c zc w h (by have := h.len; have := okc.1; omega) (fun z hz => by have := okc.2.1 z hz; omega))
    generalize hX : (fatT zc).1 = X at *
    generalize hY : (fatT zc).2.1 = Y at *
    generalize (fatT zc).2.2 = bb at *
    have hq1 := fun W => eqFraT p d r d' W
    have hq2 := fun W => eqFraT X Y p d W
    generalize (p == r && (d : Int) == (d' : Int)) = e1 at *
    generalize (X == p && Y == (d : Int)) = e2 at *
    have OKa := Lib.hid oka
    have OKb := Lib.hid okb
    have OKc := Lib.hid okc
    unfold RetN at HPa HPb HM
    have HQ1 := Lib.hid hq1
    have HQ2 := Lib.hid hq2
    clear hq1 hq2
    clear hX hY oka okb okc h0 hv hv' hpos hpos' v1 v2 v3 v4 v1' v2' v3' v4'
    go_enter Try.func26, Try.ntmps26
    go_wp2_with fail
    refine (HC.out).mono ?_
    rintro e w1 ⟨rfl, hb1⟩
    obtain ⟨hc1, hf1, hs1⟩ := keepc hb1
    have hB1 : Below w.heap.size w w1 := Below.trans (by go_grown) (hb1.mono (by first | exact Nat.le_refl _ | (simp only [World.size_alloc]; omega)))
    try simp only [World.size_alloc] at hs1
    have hl1_0 : w.heap.size < w1.heap.size := by omega
    have hl1_1 : w.heap.size + 1 < w1.heap.size := by omega
    obtain ⟨t1, t2, t3, t4, hB0, hl0⟩ := two_keep' (two_alloc (two_start w p d r d' 25 25) _) hb1
    clear hc1 hf1 hs1 hb1 hB1 HC
    generalize w1 = B at *
    have H0 := Lib.hid (show B.cell? ⟨w.heap.size, 0, none⟩ = some (.int .i64 p) ∧ B.cell? ⟨w.heap.size, 1, none⟩ = some (.int .i64 d) ∧ B.cell? ⟨w.heap.size + 1, 0, none⟩ = some (.int .i64 r) ∧ B.cell? ⟨w.heap.size + 1, 1, none⟩ = some (.int .i64 d') from ⟨t1, t2, t3, t4⟩)
    go_wp2_with fail
    clear t1 t2 t3 t4 hl0
    go_cut [7] (fun v7 wx => ∃ g : Nat, v7 = .pointer (some ⟨g, 0, none⟩) ∧ wx.cell? ⟨g, 0, none⟩ = some (.int .i64 X) ∧ wx.cell? ⟨g, 1, none⟩ = some (.int .i64 Y) ∧ Below B.heap.size B wx)
    case first =>
      go_region_held3 (fun w' => w'.cell? ⟨w.heap.size, 0, none⟩ = some (.int .i64 p) ∧ w'.cell? ⟨w.heap.size, 1, none⟩ = some (.int .i64 d) ∧ w'.cell? ⟨w.heap.size + 1, 0, none⟩ = some (.int .i64 r) ∧ w'.cell? ⟨w.heap.size + 1, 1, none⟩ = some (.int .i64 d') ∧ Below B.heap.size B w')
        (first | exact ext_of H0.out (ext_call (ext_b (by assumption)) hb) | exact ext_of H0.out (ext_first hb) | exact ext_of H0.out (ext_call ((Below.refl _ _).drew.alloc (by simp) _) hb) | exact ext_of H0.out ((Below.refl _ _).drew) | exact ext_of H0.out (Below.alloc (ext_b (by assumption)) (ext_le (ext_b (by assumption))) _) | exact ext_of H0.out ((Below.refl _ _).drew.alloc (by simp) _) | exact ext_of H0.out (ext_swap (ext_b (by assumption)) (by omega) _) | exact ext_of H0.out (ext_set2 (ext_b (by assumption)) (by omega) _ _))
        (first | (go_at_call_of 70 (Value.agg #[Value.int IntKind.i64 p, Value.int IntKind.i64 (d : Int)]); refine (HPa.out _).mono ?_; rintro e w1 ⟨⟨A1, c1, rfl, o1⟩, hb⟩; have O1 := Lib.hid o1; clear o1; (first | replace O2 := Lib.hid (own_below O2.out hb) | replace O2 := Lib.hid (own_below (O2.out.alloc _) hb) | skip); obtain ⟨hcc, hff, _⟩ := keepc hb; have hz := keepr hb; have hq := hb.size; (try simp only [World.size_drew] at hq); (try simp only [World.size_alloc] at hq); (try have hq2 := Nat.lt_of_succ_le hq); (first | (replace E := Lib.hid (new_keep E.out hb); obtain ⟨e0, e1, f0, f1⟩ := E.out) | (have E := Lib.hid (new_callD hb); obtain ⟨e0, e1, f0, f1⟩ := E.out) | (have E := Lib.hid (new_callE hb); obtain ⟨e0, e1, f0, f1⟩ := E.out) | (have E := Lib.hid (new_call hb); obtain ⟨e0, e1, f0, f1⟩ := E.out) | skip)) | (go_at_call_of 70 (Value.agg #[Value.int IntKind.i64 r, Value.int IntKind.i64 (d' : Int)]); refine (HPb.out _).mono ?_; rintro e w1 ⟨⟨A2, c2, rfl, o2⟩, hb⟩; have O2 := Lib.hid o2; clear o2; (first | replace O1 := Lib.hid (own_below O1.out hb) | replace O1 := Lib.hid (own_below (O1.out.alloc _) hb) | skip); obtain ⟨hcc, hff, _⟩ := keepc hb; have hz := keepr hb; have hq := hb.size; (try simp only [World.size_drew] at hq); (try simp only [World.size_alloc] at hq); (try have hq2 := Nat.lt_of_succ_le hq); (first | (replace E := Lib.hid (new_keep E.out hb); obtain ⟨e0, e1, f0, f1⟩ := E.out) | (have E := Lib.hid (new_callD hb); obtain ⟨e0, e1, f0, f1⟩ := E.out) | (have E := Lib.hid (new_callE hb); obtain ⟨e0, e1, f0, f1⟩ := E.out) | (have E := Lib.hid (new_call hb); obtain ⟨e0, e1, f0, f1⟩ := E.out) | skip)) | (go_at_call 69; (first | refine (HM.out A1 _ c1 A2 _ c2 _ (pth_row O1.out OKa.out) (pth_row O2.out OKb.out)).mono ?_ | refine (HM.out A1 _ c1 A2 _ c2 _ (pth_row (O1.out.alloc _) OKa.out) (pth_row (O2.out.alloc _) OKb.out)).mono ?_); rintro e w1 ⟨⟨A3, c3, rfl, o3⟩, hb⟩; have O3 := Lib.hid o3; clear o3; obtain ⟨hcc, hff, _⟩ := keepc hb; have hz := keepr hb; have hq := hb.size; (try simp only [World.size_drew] at hq); (try simp only [World.size_alloc] at hq); (try have hq2 := Nat.lt_of_succ_le hq); (first | (replace E := Lib.hid (new_keep E.out hb); obtain ⟨e0, e1, f0, f1⟩ := E.out) | (have E := Lib.hid (new_callD hb); obtain ⟨e0, e1, f0, f1⟩ := E.out) | (have E := Lib.hid (new_callE hb); obtain ⟨e0, e1, f0, f1⟩ := E.out) | (have E := Lib.hid (new_call hb); obtain ⟨e0, e1, f0, f1⟩ := E.out) | skip)) | (go_at_call 68; (first | refine (HFa.out A3 _ c3 _ (pth_row O3.out OKc.out)).mono ?_ | refine (HFa.out A3 _ c3 _ (pth_row (O3.out.alloc _) OKc.out)).mono ?_); rintro e w1 ⟨rfl, hb⟩; obtain ⟨hcc, hff, _⟩ := keepc hb; have hz := keepr hb; have hq := hb.size; (try simp only [World.size_drew] at hq); (try simp only [World.size_alloc] at hq); (try have hq2 := Nat.lt_of_succ_le hq); (first | (replace E := Lib.hid (new_keep E.out hb); obtain ⟨e0, e1, f0, f1⟩ := E.out) | (have E := Lib.hid (new_callD hb); obtain ⟨e0, e1, f0, f1⟩ := E.out) | (have E := Lib.hid (new_callE hb); obtain ⟨e0, e1, f0, f1⟩ := E.out) | (have E := Lib.hid (new_call hb); obtain ⟨e0, e1, f0, f1⟩ := E.out) | skip)))
      all_goals go_wp2_with fail
      all_goals go_meet
      all_goals refine ⟨_, rfl, ?_, ?_, ext_b (by assumption)⟩
      all_goals (first | (simp [go_sem, *]; done) | (refine (pair_set (x := .int .i64 0) (y := .int .i64 0) ?_ ?_ _ _).2.1 <;> (simp [*]; (try simp [go_sem]); done)) | (refine (pair_set (x := .int .i64 0) (y := .int .i64 0) ?_ ?_ _ _).2.2 <;> (simp [*]; (try simp [go_sem]); done)))
    case rest =>
      obtain ⟨g, rfl, hx, hy, hb1⟩ := hcut
      obtain ⟨t1, t2, t3, t4, _⟩ := ext_of H0.out hb1
      have hB1 : Below w.heap.size w wc := hB0.trans (hb1.mono hB0.size)
      have hq1 := HQ1.out
      have hq2 := HQ2.out
      clear H0 hb1 hB0 HQ1 HQ2
      cases e1 <;> cases e2
      all_goals go_wp2_with fail
      all_goals go_ret2
      all_goals exact ⟨rfl, hB1⟩
  · rw [show ancB p q r s = false from by unfold ancB; rw [decide_eq_false h0, Bool.false_and]]
    have hne : (posC2 p q r s != 0) = true := by rw [bne_iff_ne]; exact h0
    generalize posC2 p q r s = k at *
    clear h0
    go_enter Try.func26, Try.ntmps26
    go_wp2_with fail
    refine (HC.out).mono ?_
    rintro e w1 ⟨rfl, hb1⟩
    obtain ⟨hc1, hf1, hs1⟩ := keepc hb1
    have hB1 : Below w.heap.size w w1 := Below.trans (by go_grown) (hb1.mono (by first | exact Nat.le_refl _ | (simp only [World.size_alloc]; omega)))
    try simp only [World.size_alloc] at hs1
    have hl1_0 : w.heap.size < w1.heap.size := by omega
    have hl1_1 : w.heap.size + 1 < w1.heap.size := by omega
    go_wp2_with fail
    go_ret2
    exact ⟨rfl, hB1⟩
set_option maxRecDepth 100000 in
set_option maxHeartbeats 3200000 in
theorem specAnc_any (p q r s : Int) (hp : Rng p) (hq : Rng q) (hr : Rng r) (hs : Rng s) (w : World) :
    Calls Try.prog 24 #[.agg #[.int .i64 p, .int .i64 q], .agg #[.int .i64 r, .int .i64 s]] w fun e w' => e = .returned (.tuple #[.bool (ancB p q r s), .int .i64 (posC2 p q r s)]) ∧ Below w.heap.size w w' := by
  have HC := Lib.hid (l05Two_any p q r s ((w.alloc (.cells #[.int .i64 p, .int .i64 q] 25)).alloc (.cells #[.int .i64 r, .int .i64 s] 25)))
  by_cases h0 : posC2 p q r s = 0
  · obtain ⟨⟨hv, hpos⟩, hv', hpos'⟩ := posC2_ok h0
    obtain ⟨v1, v2, v3, v4, _⟩ := vfB_iff.1 hv
    obtain ⟨v1', v2', v3', v4', _⟩ := vfB_iff.1 hv'
    obtain ⟨d, rfl⟩ := Int.eq_ofNat_of_zero_le (show 0 ≤ q by omega)
    obtain ⟨d', rfl⟩ := Int.eq_ofNat_of_zero_le (show 0 ≤ s by omega)
    rw [show ancB p d r d' = (!(p == r && (d : Int) == d') && ((ancX p d r d').1 == p && (ancX p d r d').2.1 == (d : Int))) from by unfold ancB; rw [decide_eq_true h0, Bool.true_and]]
    rw [show ancX p d r d' = fatT (comL (pthL p d) (pthL r d')) from by unfold ancX; rw [Int.toNat_natCast, Int.toNat_natCast]]
    rw [h0] at HC ⊢
    have HPa := Lib.hid (fun w => l05Path_any p d w v3 v4 (by omega) (by omega))
    have HPb := Lib.hid (fun w => l05Path_any r d' w v3' v4' (by omega) (by omega))
    have oka := pth_ok (p := p) (d := d) (by omega) v4 (by omega) (by omega)
    have okb := pth_ok (p := r) (d := d') (by omega) v4' (by omega) (by omega)
    generalize pthL p d = za at *
    generalize pthL r d' = zb at *
    have okc : PthOk (comL za zb) := trm_ok (comR_ok oka okb)
    have HM := Lib.hid (fun A1 n1 c1 A2 n2 c2 w h h' => l05Common_any A1 n1 c1 za A2 n2 c2 zb w h h' oka okb)
    generalize comL za zb = zc at *
    have HFa := Lib.hid (fun A n c w h => l05At_any A n c zc w h (by have := h.len; have := okc.1; omega) (fun z hz => by have := okc.2.1 z hz; omega))
    generalize hX : (fatT zc).1 = X at *
    generalize hY : (fatT zc).2.1 = Y at *
    generalize (fatT zc).2.2 = bb at *
    have hq1 := fun W => eqFraT p d r d' W
    have hq2 := fun W => eqFraT X Y p d W
    generalize (p == r && (d : Int) == (d' : Int)) = e1 at *
    generalize (X == p && Y == (d : Int)) = e2 at *
    have OKa := Lib.hid oka
    have OKb := Lib.hid okb
    have OKc := Lib.hid okc
    unfold RetN at HPa HPb HM
    have HQ1 := Lib.hid hq1
    have HQ2 := Lib.hid hq2
    clear hq1 hq2
    clear hX hY oka okb okc h0 hv hv' hpos hpos' v1 v2 v3 v4 v1' v2' v3' v4'
    go_enter Try.func24, Try.ntmps24
    go_wp2_with fail
    refine (HC.out).mono ?_
    rintro e w1 ⟨rfl, hb1⟩
    obtain ⟨hc1, hf1, hs1⟩ := keepc hb1
    have hB1 : Below w.heap.size w w1 := Below.trans (by go_grown) (hb1.mono (by first | exact Nat.le_refl _ | (simp only [World.size_alloc]; omega)))
    try simp only [World.size_alloc] at hs1
    have hl1_0 : w.heap.size < w1.heap.size := by omega
    have hl1_1 : w.heap.size + 1 < w1.heap.size := by omega
    obtain ⟨t1, t2, t3, t4, hB0, hl0⟩ := two_keep' (two_start w p d r d' 25 25) hb1
    clear hc1 hf1 hs1 hb1 hB1 HC
    generalize w1 = B at *
    have H0 := Lib.hid (show B.cell? ⟨w.heap.size, 0, none⟩ = some (.int .i64 p) ∧ B.cell? ⟨w.heap.size, 1, none⟩ = some (.int .i64 d) ∧ B.cell? ⟨w.heap.size + 1, 0, none⟩ = some (.int .i64 r) ∧ B.cell? ⟨w.heap.size + 1, 1, none⟩ = some (.int .i64 d') from ⟨t1, t2, t3, t4⟩)
    go_wp2_with fail
    clear t1 t2 t3 t4 hl0
    go_cut [7] (fun v7 wx => ∃ g : Nat, v7 = .pointer (some ⟨g, 0, none⟩) ∧ wx.cell? ⟨g, 0, none⟩ = some (.int .i64 X) ∧ wx.cell? ⟨g, 1, none⟩ = some (.int .i64 Y) ∧ Below B.heap.size B wx)
    case first =>
      go_region_held3 (fun w' => w'.cell? ⟨w.heap.size, 0, none⟩ = some (.int .i64 p) ∧ w'.cell? ⟨w.heap.size, 1, none⟩ = some (.int .i64 d) ∧ w'.cell? ⟨w.heap.size + 1, 0, none⟩ = some (.int .i64 r) ∧ w'.cell? ⟨w.heap.size + 1, 1, none⟩ = some (.int .i64 d') ∧ Below B.heap.size B w')
        (first | exact ext_of H0.out (ext_call (ext_b (by assumption)) hb) | exact ext_of H0.out (ext_first hb) | exact ext_of H0.out (ext_call ((Below.refl _ _).drew.alloc (by simp) _) hb) | exact ext_of H0.out ((Below.refl _ _).drew) | exact ext_of H0.out (Below.alloc (ext_b (by assumption)) (ext_le (ext_b (by assumption))) _) | exact ext_of H0.out ((Below.refl _ _).drew.alloc (by simp) _) | exact ext_of H0.out (ext_swap (ext_b (by assumption)) (by omega) _) | exact ext_of H0.out (ext_set2 (ext_b (by assumption)) (by omega) _ _))
        (first | (go_at_call_of 66 (Value.agg #[Value.int IntKind.i64 p, Value.int IntKind.i64 (d : Int)]); refine (HPa.out _).mono ?_; rintro e w1 ⟨⟨A1, c1, rfl, o1⟩, hb⟩; have O1 := Lib.hid o1; clear o1; (first | replace O2 := Lib.hid (own_below O2.out hb) | replace O2 := Lib.hid (own_below (O2.out.alloc _) hb) | skip); obtain ⟨hcc, hff, _⟩ := keepc hb; have hz := keepr hb; have hq := hb.size; (try simp only [World.size_drew] at hq); (try simp only [World.size_alloc] at hq); (try have hq2 := Nat.lt_of_succ_le hq); (first | (replace E := Lib.hid (new_keep E.out hb); obtain ⟨e0, e1, f0, f1⟩ := E.out) | (have E := Lib.hid (new_callD hb); obtain ⟨e0, e1, f0, f1⟩ := E.out) | (have E := Lib.hid (new_callE hb); obtain ⟨e0, e1, f0, f1⟩ := E.out) | (have E := Lib.hid (new_call hb); obtain ⟨e0, e1, f0, f1⟩ := E.out) | skip)) | (go_at_call_of 66 (Value.agg #[Value.int IntKind.i64 r, Value.int IntKind.i64 (d' : Int)]); refine (HPb.out _).mono ?_; rintro e w1 ⟨⟨A2, c2, rfl, o2⟩, hb⟩; have O2 := Lib.hid o2; clear o2; (first | replace O1 := Lib.hid (own_below O1.out hb) | replace O1 := Lib.hid (own_below (O1.out.alloc _) hb) | skip); obtain ⟨hcc, hff, _⟩ := keepc hb; have hz := keepr hb; have hq := hb.size; (try simp only [World.size_drew] at hq); (try simp only [World.size_alloc] at hq); (try have hq2 := Nat.lt_of_succ_le hq); (first | (replace E := Lib.hid (new_keep E.out hb); obtain ⟨e0, e1, f0, f1⟩ := E.out) | (have E := Lib.hid (new_callD hb); obtain ⟨e0, e1, f0, f1⟩ := E.out) | (have E := Lib.hid (new_callE hb); obtain ⟨e0, e1, f0, f1⟩ := E.out) | (have E := Lib.hid (new_call hb); obtain ⟨e0, e1, f0, f1⟩ := E.out) | skip)) | (go_at_call 65; (first | refine (HM.out A1 _ c1 A2 _ c2 _ (pth_row O1.out OKa.out) (pth_row O2.out OKb.out)).mono ?_ | refine (HM.out A1 _ c1 A2 _ c2 _ (pth_row (O1.out.alloc _) OKa.out) (pth_row (O2.out.alloc _) OKb.out)).mono ?_); rintro e w1 ⟨⟨A3, c3, rfl, o3⟩, hb⟩; have O3 := Lib.hid o3; clear o3; obtain ⟨hcc, hff, _⟩ := keepc hb; have hz := keepr hb; have hq := hb.size; (try simp only [World.size_drew] at hq); (try simp only [World.size_alloc] at hq); (try have hq2 := Nat.lt_of_succ_le hq); (first | (replace E := Lib.hid (new_keep E.out hb); obtain ⟨e0, e1, f0, f1⟩ := E.out) | (have E := Lib.hid (new_callD hb); obtain ⟨e0, e1, f0, f1⟩ := E.out) | (have E := Lib.hid (new_callE hb); obtain ⟨e0, e1, f0, f1⟩ := E.out) | (have E := Lib.hid (new_call hb); obtain ⟨e0, e1, f0, f1⟩ := E.out) | skip)) | (go_at_call 64; (first | refine (HFa.out A3 _ c3 _ (pth_row O3.out OKc.out)).mono ?_ | refine (HFa.out A3 _ c3 _ (pth_row (O3.out.alloc _) OKc.out)).mono ?_); rintro e w1 ⟨rfl, hb⟩; obtain ⟨hcc, hff, _⟩ := keepc hb; have hz := keepr hb; have hq := hb.size; (try simp only [World.size_drew] at hq); (try simp only [World.size_alloc] at hq); (try have hq2 := Nat.lt_of_succ_le hq); (first | (replace E := Lib.hid (new_keep E.out hb); obtain ⟨e0, e1, f0, f1⟩ := E.out) | (have E := Lib.hid (new_callD hb); obtain ⟨e0, e1, f0, f1⟩ := E.out) | (have E := Lib.hid (new_callE hb); obtain ⟨e0, e1, f0, f1⟩ := E.out) | (have E := Lib.hid (new_call hb); obtain ⟨e0, e1, f0, f1⟩ := E.out) | skip)))
      all_goals go_wp2_with fail
      all_goals go_meet
      all_goals refine ⟨_, rfl, ?_, ?_, ext_b (by assumption)⟩
      all_goals (first | (simp [go_sem, *]; done) | (refine (pair_set (x := .int .i64 0) (y := .int .i64 0) ?_ ?_ _ _).2.1 <;> (simp [*]; (try simp [go_sem]); done)) | (refine (pair_set (x := .int .i64 0) (y := .int .i64 0) ?_ ?_ _ _).2.2 <;> (simp [*]; (try simp [go_sem]); done)))
    case rest =>
      obtain ⟨g, rfl, hx, hy, hb1⟩ := hcut
      obtain ⟨t1, t2, t3, t4, _⟩ := ext_of H0.out hb1
      have hB1 : Below w.heap.size w wc := hB0.trans (hb1.mono hB0.size)
      have hq1 := HQ1.out
      have hq2 := HQ2.out
      clear H0 hb1 hB0 HQ1 HQ2
      cases e1 <;> cases e2
      all_goals go_wp2_with fail
      all_goals go_ret2
      all_goals exact ⟨rfl, hB1⟩
  · rw [show ancB p q r s = false from by unfold ancB; rw [decide_eq_false h0, Bool.false_and]]
    have hne : (posC2 p q r s != 0) = true := by rw [bne_iff_ne]; exact h0
    generalize posC2 p q r s = k at *
    clear h0
    go_enter Try.func24, Try.ntmps24
    go_wp2_with fail
    refine (HC.out).mono ?_
    rintro e w1 ⟨rfl, hb1⟩
    obtain ⟨hc1, hf1, hs1⟩ := keepc hb1
    have hB1 : Below w.heap.size w w1 := Below.trans (by go_grown) (hb1.mono (by first | exact Nat.le_refl _ | (simp only [World.size_alloc]; omega)))
    try simp only [World.size_alloc] at hs1
    have hl1_0 : w.heap.size < w1.heap.size := by omega
    have hl1_1 : w.heap.size + 1 < w1.heap.size := by omega
    go_wp2_with fail
    go_ret2
    exact ⟨rfl, hB1⟩
set_option maxHeartbeats 1600000 in
theorem fnExactIsAncestor_walk (p q : Int) (hp0 : -9223372036854775808 ≤ p) (hp1 : p ≤ 9223372036854775807) (hq0 : -9223372036854775808 ≤ q) (hq1 : q ≤ 9223372036854775807)
    (r s : Int) (hr0 : -9223372036854775808 ≤ r) (hr1 : r ≤ 9223372036854775807) (hs0 : -9223372036854775808 ≤ s) (hs1 : s ≤ 9223372036854775807) (w : World) :
    Calls Try.prog 5 #[.agg #[.int .i64 p, .int .i64 q], .agg #[.int .i64 r, .int .i64 s]] w fun e w' => e = .returned (.bool true) ∧ Below w.heap.size w w' := by
  have hp : Rng p := by unfold Rng; omega
  have hq : Rng q := by unfold Rng; omega
  have hr : Rng r := by unfold Rng; omega
  have hs : Rng s := by unfold Rng; omega
  obtain ⟨x, k, HS, HI⟩ : ∃ (x : Bool) (k : Int), Hid (∀ w : World, Calls Try.prog 24 #[.agg #[.int .i64 p, .int .i64 q], .agg #[.int .i64 r, .int .i64 s]] w fun e w' => e = .returned (.tuple #[.bool x, .int .i64 k]) ∧ Below w.heap.size w w') ∧ Hid (∀ w : World, Calls Try.prog 26 #[.agg #[.int .i64 p, .int .i64 q], .agg #[.int .i64 r, .int .i64 s]] w fun e w' => e = .returned (.tuple #[.bool x, .int .i64 k]) ∧ Below w.heap.size w w') :=
    ⟨_, _, fun w => specAnc_any p q r s hp hq hr hs w, fun w => implAnc_any p q r s hp hq hr hs w⟩
  go_enter Try.func5, Try.ntmps5
  go_wp2_with fail
  go_region_held3 (fun w' => w'.cell? ⟨w.heap.size, 0, none⟩ = some (.int .i64 p) ∧ w'.cell? ⟨w.heap.size, 1, none⟩ = some (.int .i64 q) ∧ w'.cell? ⟨w.heap.size + 1, 0, none⟩ = some (.int .i64 r) ∧ w'.cell? ⟨w.heap.size + 1, 1, none⟩ = some (.int .i64 s) ∧ Below w.heap.size w w' ∧ w.heap.size + 1 < w'.heap.size)
    (first | exact two_keep' (by assumption) hb | exact two_drew (by assumption) | exact two_keep' (two_drew (two_start w p q r s _ _)) hb | exact two_drew (two_start w p q r s _ _))
    (first | (go_at_call 25; refine (toFraction_any _ _ _).mono ?_; rintro e w1 ⟨rfl, hb⟩) | (go_at_call 24; refine (HS.out _).mono ?_; rintro e w1 ⟨rfl, hb⟩))
  go_wp2
  go_region_held3 (fun w' => w'.cell? ⟨w.heap.size, 0, none⟩ = some (.int .i64 p) ∧ w'.cell? ⟨w.heap.size, 1, none⟩ = some (.int .i64 q) ∧ w'.cell? ⟨w.heap.size + 1, 0, none⟩ = some (.int .i64 r) ∧ w'.cell? ⟨w.heap.size + 1, 1, none⟩ = some (.int .i64 s) ∧ Below w.heap.size w w' ∧ w.heap.size + 1 < w'.heap.size)
    (first | exact two_keep' (by assumption) hb | exact two_drew (by assumption) | exact two_keep' (two_drew (two_start w p q r s _ _)) hb | exact two_drew (two_start w p q r s _ _))
    (first | (go_at_call 25; refine (toFraction_any _ _ _).mono ?_; rintro e w1 ⟨rfl, hb⟩) | (go_at_call 26; refine (HI.out _).mono ?_; rintro e w1 ⟨rfl, hb⟩))
  go_wp2
  go_ret
  exact ⟨rfl, two_below (by assumption)⟩
end Go.Proofs.Ytjkonkoiofhefaa
