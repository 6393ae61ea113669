/-
  Paths and levels: contracts of the exported functions; the walks of the laws FnExactPathTo and FnExactLevelOf.
  No condition but those of the laws' own texts.
-/
import Derived.Test.YtbpaihbpaeoljaaProg
import Derived.Test.YtbpaihbpaeoljaaMem
import Derived.Test.YtbpaihbpaeoljaaBasic
import Derived.Test.YtbpaihbpaeoljaaAllk
import Derived.Test.YtbpaihbpaeoljaaInts
import Derived.Test.YtbpaihbpaeoljaaFrac
import Derived.Test.YtbpaihbpaeoljaaMarks
import Derived.Test.YtbpaihbpaeoljaaOwn
import Derived.Test.YtbpaihbpaeoljaaShort
import Derived.Test.YtbpaihbpaeoljaaExp
import Derived.Test.YtbpaihbpaeoljaaCvg
import Derived.Test.YtbpaihbpaeoljaaPthM
import Derived.Test.YtbpaihbpaeoljaaPth
import Derived.Handy
import Derived.BigQuiet
import Derived.Deep.QuietTactic
namespace Go.Proofs.Ytbpaihbpaeoljaa
open Go.RowKit
set_option linter.unusedVariables false
attribute [local go_sem ↓] Go.wp_at_zero Go.wp_at_succ

theorem pos_ok {p q : Int} (h : posC p q = 0) : vfB p q = true ∧ 0 < p := by
  unfold posC at h
  split at h
  · rename_i hv
    split at h
    · rename_i hp; exact ⟨hv, hp⟩
    · cases h
  · cases h
theorem chk_any (p q : Int) (b cap : Nat) (w : World) (c0 : w.cell? ⟨b, 0, none⟩ = some (.int .i64 p)) (c1 : w.cell? ⟨b, 1, none⟩ = some (.int .i64 q)) (hp : Rng p) (hq : Rng q) :
    Calls Try.prog 69 #[.slice (some ⟨b, 0, none⟩) 1 cap] w fun e w' => e = .returned (.int .i64 (posC p q)) ∧ Below w.heap.size w w' :=
  (checkPositive_any (some ⟨b, 0, none⟩) 1 cap [(p, q)] w (prow_one c0 c1 hp hq)).mono fun e w' h => by rw [posL_one] at h; exact h

/-- The path to a fraction. -/
def ptoL (p q : Int) : List Int := if posC p q = 0 then pthL p q.toNat else []
theorem ptoL_len (p q : Int) : (ptoL p q).length ≤ 1000000000 := by
  unfold ptoL
  split
  · rename_i h
    have := vfB_iff.1 (pos_ok h).1
    have := pthL_len p q.toNat
    omega
  · exact Nat.zero_le _
theorem ptoL_rng (p q : Int) : ∀ z ∈ ptoL p q, Rng z := by
  unfold ptoL
  split
  · rename_i h
    have := vfB_iff.1 (pos_ok h).1
    intro z hz
    have := pthL_rng (by omega) (by omega) (by omega) z hz
    unfold Rng; omega
  · intro z hz; cases hz

theorem implPto_any (p q : Int) (hp : Rng p) (hq : Rng q) (w : World) : Calls Try.prog 40 #[.agg #[.int .i64 p, .int .i64 q]] w fun e w' => ResI w.heap.size (ptoL p q) (posC p q) e w' ∧ Below w.heap.size w w' := by
  by_cases h0 : posC p q = 0
  · obtain ⟨hv, hpos⟩ := pos_ok h0
    obtain ⟨v1, v2, v3, v4, _⟩ := vfB_iff.1 hv
    obtain ⟨d, rfl⟩ := Int.eq_ofNat_of_zero_le (show 0 ≤ q by omega)
    rw [show ptoL p d = pthL p d from by unfold ptoL; rw [if_pos h0, Int.toNat_natCast], h0]
    go_enter Try.func40, Try.ntmps40
    go_wp2_with fail
    refine (chk_any p d (w.heap.size + 1) 1 _ (by simp) (by simp) hp hq).mono ?_
    rintro e w1 ⟨rfl, hb1⟩
    obtain ⟨hc1, hf1, hs1⟩ := keepc hb1
    have hB1 : Below w.heap.size w w1 := Below.trans (by go_grown) (hb1.mono (by first | exact Nat.le_refl _ | (simp only [World.size_alloc]; omega)))
    try simp only [World.size_alloc] at hs1
    have hl1_0 : w.heap.size < w1.heap.size := by omega
    rw [h0]
    go_wp2_with fail
    refine (pathTo_any p d _ v3 v4 (by omega) (by omega)).mono ?_
    rintro e w2 ⟨⟨A2, c2, rfl, ho2⟩, hb2⟩
    obtain ⟨hc2, hf2, hs2⟩ := keepc hb2
    have hB2 : Below w.heap.size w w2 := hB1.trans (hb2.mono (by have := hB1.size; omega))
    have hl2_0 : w.heap.size < w2.heap.size := by omega
    have HO := Lib.hid ho2
    clear ho2
    go_wp2_with fail
    go_ret2
    exact ⟨⟨A2, c2, rfl, own_base HO.out (by omega)⟩, hB2⟩
  · rw [show ptoL p q = [] from if_neg h0]
    have HC := Lib.hid (fun w b cap c0 c1 => chk_any p q b cap w c0 c1 hp hq)
    have hne : (posC p q != 0) = true := by rw [bne_iff_ne]; exact h0
    generalize posC p q = k at *
    clear h0
    go_enter Try.func40, Try.ntmps40
    go_wp2_with fail
    refine (HC.out _ (w.heap.size + 1) 1 (by simp) (by simp)).mono ?_
    rintro e w1 ⟨rfl, hb1⟩
    obtain ⟨hc1, hf1, hs1⟩ := keepc hb1
    have hB1 : Below w.heap.size w w1 := Below.trans (by go_grown) (hb1.mono (by first | exact Nat.le_refl _ | (simp only [World.size_alloc]; omega)))
    try simp only [World.size_alloc] at hs1
    have hl1_0 : w.heap.size < w1.heap.size := by omega
    go_wp2_with fail
    go_ret2
    exact ⟨⟨none, 0, rfl, World.ownsRow_nil ..⟩, hB1⟩
theorem specPto_any (p q : Int) (hp : Rng p) (hq : Rng q) (w : World) : Calls Try.prog 39 #[.agg #[.int .i64 p, .int .i64 q]] w fun e w' => ResI w.heap.size (ptoL p q) (posC p q) e w' ∧ Below w.heap.size w w' := by
  by_cases h0 : posC p q = 0
  · obtain ⟨hv, hpos⟩ := pos_ok h0
    obtain ⟨v1, v2, v3, v4, _⟩ := vfB_iff.1 hv
    obtain ⟨d, rfl⟩ := Int.eq_ofNat_of_zero_le (show 0 ≤ q by omega)
    rw [show ptoL p d = pthL p d from by unfold ptoL; rw [if_pos h0, Int.toNat_natCast], h0]
    go_enter Try.func39, Try.ntmps39
    go_wp2_with fail
    refine (l05Code_any p d _).mono ?_
    rintro e w1 ⟨rfl, hb1⟩
    obtain ⟨hc1, hf1, hs1⟩ := keepc hb1
    have hB1 : Below w.heap.size w w1 := Below.trans (by go_grown) (hb1.mono (by first | exact Nat.le_refl _ | (simp only [World.size_alloc]; omega)))
    try simp only [World.size_alloc] at hs1
    have hl1_0 : w.heap.size < w1.heap.size := by omega
    rw [h0]
    go_wp2_with fail
    refine (l05Path_any p d _ v3 v4 (by omega) (by omega)).mono ?_
    rintro e w2 ⟨⟨A2, c2, rfl, ho2⟩, hb2⟩
    obtain ⟨hc2, hf2, hs2⟩ := keepc hb2
    have hB2 : Below w.heap.size w w2 := hB1.trans (hb2.mono (by have := hB1.size; omega))
    have hl2_0 : w.heap.size < w2.heap.size := by omega
    have HO := Lib.hid ho2
    clear ho2
    go_wp2_with fail
    go_ret2
    exact ⟨⟨A2, c2, rfl, own_base HO.out (by omega)⟩, hB2⟩
  · rw [show ptoL p q = [] from if_neg h0]
    have HC := Lib.hid (fun w => l05Code_any p q w)
    have hne : (posC p q != 0) = true := by rw [bne_iff_ne]; exact h0
    generalize posC p q = k at *
    clear h0
    go_enter Try.func39, Try.ntmps39
    go_wp2_with fail
    refine (HC.out _).mono ?_
    rintro e w1 ⟨rfl, hb1⟩
    obtain ⟨hc1, hf1, hs1⟩ := keepc hb1
    have hB1 : Below w.heap.size w w1 := Below.trans (by go_grown) (hb1.mono (by first | exact Nat.le_refl _ | (simp only [World.size_alloc]; omega)))
    try simp only [World.size_alloc] at hs1
    have hl1_0 : w.heap.size < w1.heap.size := by omega
    go_wp2_with fail
    go_ret2
    exact ⟨⟨none, 0, rfl, World.ownsRow_nil ..⟩, hB1⟩

/-- The sum. -/
def sumT : List Int → Int
  | [] => 0
  | z :: r => z + sumT r
set_option maxHeartbeats 800000 in
theorem l05Sum_any (A : Option Addr) (n cap : Nat) (zs : List Int) (w : World) (h : IRow w A n zs) (hn : n ≤ 1000000000) (hr : ∀ z ∈ zs, -1000000001 ≤ z ∧ z ≤ 1000000000) :
    Calls Try.prog 67 #[.slice A n cap] w fun e w' => e = .returned (.int .i64 (sumT zs)) ∧ w = w' := by
  have Hl := Lib.hid h.len
  have hw := Lib.hid h; clear h
  have HR := Lib.hid hr; clear hr
  go_enter Try.func67, Try.ntmps67
  go_wp2_with fail
  go_loop [3, 4] (fun s i => ∃ (k : Nat) (a : Int), k ≤ n ∧ i = .int .i64 k ∧ s = .int .i64 a ∧ -1000000001 * (k : Int) ≤ a ∧ a ≤ 1000000001 * (k : Int) ∧ Hid (a + sumT (zs.drop k) = sumT zs)) (fun _ i => n - (intOf i).toNat)
  case atStart => exact ⟨0, 0, Nat.zero_le _, rfl, rfl, by omega, by omega, (show (0 : Int) + sumT (zs.drop 0) = sumT zs by simp)⟩
  case round =>
    obtain ⟨k, a, hk, rfl, rfl, a1, a2, HS⟩ := hrel
    by_cases hlt : k < n
    · obtain ⟨ad, z, rfl, hz, z1, z2, hc⟩ := hw.out.at_ hlt
      obtain ⟨y1, y2⟩ := HR.out z (List.mem_of_getElem? hz)
      have HZ := Lib.hid hz; clear hz
      have hcz : k = 0 → w.cell? ad = some (.int .i64 z) := fun h0 => by rw [h0, addr_nil] at hc; exact hc
      go_wp2_with fail
      go_round
      case rel => exact ⟨k + 1, a + z, by omega, by go_num, rfl, by omega, by omega, by have := HS.out; rw [drop_at HZ.out, sumT] at this; show a + z + _ = _; omega⟩
      case measure => simp [intOf]; omega
    · obtain rfl : n = k := by omega
      go_wp2_with fail
      go_ret
      exact ⟨ret_int (by have := HS.out; rw [List.drop_of_length_le (by rw [Hl.out]; exact Nat.le_refl _), sumT] at this; omega), rfl⟩
/-- The level of a fraction, and a code. -/
def lvlT (p q : Int) : Int := if posC p q = 0 then sumT (pthL p q.toNat) else 0
theorem specLvl_any (p q : Int) (w : World) : Calls Try.prog 31 #[.agg #[.int .i64 p, .int .i64 q]] w fun e w' => e = .returned (.tuple #[.int .i64 (lvlT p q), .int .i64 (posC p q)]) ∧ Below w.heap.size w w' := by
  by_cases h0 : posC p q = 0
  · obtain ⟨hv, hpos⟩ := pos_ok h0
    obtain ⟨v1, v2, v3, v4, _⟩ := vfB_iff.1 hv
    obtain ⟨d, rfl⟩ := Int.eq_ofNat_of_zero_le (show 0 ≤ q by omega)
    rw [show lvlT p d = sumT (pthL p d) from by unfold lvlT; rw [if_pos h0, Int.toNat_natCast], h0]
    have hlen : (pthL p d).length ≤ 1000000000 := by have := pthL_len p d; omega
    have HR := Lib.hid (pthL_rng v3 v4 (show d ≤ 1000000000 by omega))
    go_enter Try.func31, Try.ntmps31
    go_wp2_with fail
    refine (l05Code_any p d _).mono ?_
    rintro e w1 ⟨rfl, hb1⟩
    obtain ⟨hc1, hf1, hs1⟩ := keepc hb1
    have hB1 : Below w.heap.size w w1 := Below.trans (by go_grown) (hb1.mono (by first | exact Nat.le_refl _ | (simp only [World.size_alloc]; omega)))
    try simp only [World.size_alloc] at hs1
    have hl1_0 : w.heap.size < w1.heap.size := by omega
    rw [h0]
    go_wp2_with fail
    refine (l05Path_any p d _ v3 v4 (by omega) (by omega)).mono ?_
    rintro e w2 ⟨⟨A2, c2, rfl, ho2⟩, hb2⟩
    obtain ⟨hc2, hf2, hs2⟩ := keepc hb2
    have hB2 : Below w.heap.size w w2 := hB1.trans (hb2.mono (by have := hB1.size; omega))
    have hl2_0 : w.heap.size < w2.heap.size := by omega
    have hI := IRow.of_own ho2 (by omega) (fun z hz => by have := HR.out z hz; unfold Rng; omega)
    clear ho2
    go_wp2_with fail
    refine (l05Sum_any A2 _ c2 (pthL p d) _ hI hlen HR.out).mono ?_
    rintro e w' ⟨rfl, rfl⟩
    go_wp2_with fail
    go_ret2
    exact ⟨rfl, hB2⟩
  · rw [show lvlT p q = 0 from if_neg h0]
    have HC := Lib.hid (fun w => l05Code_any p q w)
    have hne : (posC p q != 0) = true := by rw [bne_iff_ne]; exact h0
    generalize posC p q = k at *
    clear h0
    go_enter Try.func31, Try.ntmps31
    go_wp2_with fail
    refine (HC.out _).mono ?_
    rintro e w1 ⟨rfl, hb1⟩
    obtain ⟨hc1, hf1, hs1⟩ := keepc hb1
    have hB1 : Below w.heap.size w w1 := Below.trans (by go_grown) (hb1.mono (by first | exact Nat.le_refl _ | (simp only [World.size_alloc]; omega)))
    try simp only [World.size_alloc] at hs1
    have hl1_0 : w.heap.size < w1.heap.size := by omega
    go_wp2_with fail
    go_ret2
    exact ⟨rfl, hB1⟩
set_option maxHeartbeats 800000 in
theorem implLvl_any (p q : Int) (hp : Rng p) (hq : Rng q) (w : World) : Calls Try.prog 32 #[.agg #[.int .i64 p, .int .i64 q]] w fun e w' => e = .returned (.tuple #[.int .i64 (lvlT p q), .int .i64 (posC p q)]) ∧ Below w.heap.size w w' := by
  by_cases h0 : posC p q = 0
  · obtain ⟨hv, hpos⟩ := pos_ok h0
    obtain ⟨v1, v2, v3, v4, _⟩ := vfB_iff.1 hv
    obtain ⟨d, rfl⟩ := Int.eq_ofNat_of_zero_le (show 0 ≤ q by omega)
    rw [show lvlT p d = sumT (pthL p d) from by unfold lvlT; rw [if_pos h0, Int.toNat_natCast], h0]
    have hlen : (pthL p d).length ≤ 1000000000 := by have := pthL_len p d; omega
    have HR := Lib.hid (pthL_rng v3 v4 (show d ≤ 1000000000 by omega))
    have HP := Lib.hid (fun w => pathTo_any p d w v3 v4 (by omega) (by omega))
    obtain ⟨zs, hzs⟩ : ∃ zs, zs = pthL p d := ⟨_, rfl⟩
    rw [← hzs] at HR HP hlen ⊢
    obtain ⟨n, hn⟩ : ∃ n, n = zs.length := ⟨_, rfl⟩
    rw [← hn] at HP hlen
    have HN := Lib.hid hn
    clear hn hzs
    go_enter Try.func32, Try.ntmps32
    go_wp2_with fail
    refine (chk_any p d (w.heap.size + 1) 1 _ (by simp) (by simp) hp hq).mono ?_
    rintro e w1 ⟨rfl, hb1⟩
    obtain ⟨hc1, hf1, hs1⟩ := keepc hb1
    have hB1 : Below w.heap.size w w1 := Below.trans (by go_grown) (hb1.mono (by first | exact Nat.le_refl _ | (simp only [World.size_alloc]; omega)))
    try simp only [World.size_alloc] at hs1
    have hl1_0 : w.heap.size < w1.heap.size := by omega
    rw [h0]
    go_wp2_with fail
    refine (HP.out _).mono ?_
    rintro e w2 ⟨⟨A2, c2, rfl, ho2⟩, hb2⟩
    obtain ⟨hc2, hf2, hs2⟩ := keepc hb2
    have hB2 : Below w.heap.size w w2 := hB1.trans (hb2.mono (by have := hB1.size; omega))
    have hl2_0 : w.heap.size < w2.heap.size := by omega
    have hw := Lib.hid (IRow.of_own ho2 (by omega) (fun z hz => by have := HR.out z hz; unfold Rng; omega))
    clear ho2
    go_wp2_with fail
    go_loop [5, 17] (fun s i => ∃ (k : Nat) (a : Int), k ≤ n ∧ i = .int .i64 k ∧ s = .int .i64 a ∧ -1000000001 * (k : Int) ≤ a ∧ a ≤ 1000000001 * (k : Int) ∧ Hid (a + sumT (zs.drop k) = sumT zs)) (fun _ i => n - (intOf i).toNat)
    case atStart => exact ⟨0, 0, Nat.zero_le _, rfl, rfl, by omega, by omega, (show (0 : Int) + sumT (zs.drop 0) = sumT zs by simp)⟩
    case round =>
      obtain ⟨k, a, hk, rfl, rfl, a1, a2, HS⟩ := hrel
      by_cases hlt : k < n
      · obtain ⟨ad, z, rfl, hz, z1, z2, hc⟩ := hw.out.at_ hlt
        obtain ⟨y1, y2⟩ := HR.out z (List.mem_of_getElem? hz)
        have HZ := Lib.hid hz; clear hz
        go_wp2_with fail
        go_round
        case rel => exact ⟨k + 1, a + z, by omega, by go_num, rfl, by omega, by omega, by have := HS.out; rw [drop_at HZ.out, sumT] at this; show a + z + _ = _; omega⟩
        case measure => simp [intOf]; omega
      · obtain rfl : n = k := by omega
        go_wp2_with fail
        go_ret2
        refine ⟨ret_int2 ?_ rfl, hB2⟩
        have := HS.out; rw [List.drop_of_length_le (by rw [← HN.out]; exact Nat.le_refl _), sumT] at this; omega
  · rw [show lvlT p q = 0 from if_neg h0]
    have HC := Lib.hid (fun w b cap c0 c1 => chk_any p q b cap w c0 c1 hp hq)
    have hne : (posC p q != 0) = true := by rw [bne_iff_ne]; exact h0
    generalize posC p q = k at *
    clear h0
    go_enter Try.func32, Try.ntmps32
    go_wp2_with fail
    refine (HC.out _ (w.heap.size + 1) 1 (by simp) (by simp)).mono ?_
    rintro e w1 ⟨rfl, hb1⟩
    obtain ⟨hc1, hf1, hs1⟩ := keepc hb1
    have hB1 : Below w.heap.size w w1 := Below.trans (by go_grown) (hb1.mono (by first | exact Nat.le_refl _ | (simp only [World.size_alloc]; omega)))
    try simp only [World.size_alloc] at hs1
    have hl1_0 : w.heap.size < w1.heap.size := by omega
    go_wp2_with fail
    go_ret2
    exact ⟨rfl, hB1⟩
theorem fnExactLevelOf_walk (p q : Int) (_ : -9223372036854775808 ≤ p) (_ : p ≤ 9223372036854775807) (_ : -9223372036854775808 ≤ q) (_ : q ≤ 9223372036854775807) (w : World) :
    Calls Try.prog 7 #[.agg #[.int .i64 p, .int .i64 q]] w fun e w' => e = .returned (.bool true) ∧ Below w.heap.size w w' := by
  go_enter Try.func7, Try.ntmps7
  go_wp2_with fail
  refine (toFraction_any p q _).mono ?_
  rintro e w1 ⟨rfl, hb1⟩
  obtain ⟨hc1, hf1, hs1⟩ := keepc hb1
  have hB1 : Below w.heap.size w w1 := Below.trans (by go_grown) (hb1.mono (by first | exact Nat.le_refl _ | (simp only [World.size_alloc]; omega)))
  try simp only [World.size_alloc] at hs1
  have hl1_0 : w.heap.size < w1.heap.size := by omega
  go_wp2_with fail
  refine (specLvl_any p q _).mono ?_
  rintro e w2 ⟨rfl, hb2⟩
  obtain ⟨hc2, hf2, hs2⟩ := keepc hb2
  have hB2 : Below w.heap.size w w2 := hB1.trans (hb2.mono (by have := hB1.size; omega))
  have hl2_0 : w.heap.size < w2.heap.size := by omega
  go_wp2_with fail
  refine (toFraction_any p q _).mono ?_
  rintro e w3 ⟨rfl, hb3⟩
  obtain ⟨hc3, hf3, hs3⟩ := keepc hb3
  have hB3 : Below w.heap.size w w3 := hB2.trans (hb3.mono (by have := hB2.size; omega))
  have hl3_0 : w.heap.size < w3.heap.size := by omega
  go_wp2_with fail
  refine (implLvl_any p q ⟨by assumption, by assumption⟩ ⟨by assumption, by assumption⟩ _).mono ?_
  rintro e w4 ⟨rfl, hb4⟩
  obtain ⟨hc4, hf4, hs4⟩ := keepc hb4
  have hB4 : Below w.heap.size w w4 := hB3.trans (hb4.mono (by have := hB3.size; omega))
  have hl4_0 : w.heap.size < w4.heap.size := by omega
  go_wp2_with fail
  go_ret
  exact ⟨rfl, hB4⟩
set_option maxHeartbeats 3200000 in
theorem fnExactPathTo_walk (p q : Int) (_ : -9223372036854775808 ≤ p) (_ : p ≤ 9223372036854775807) (_ : -9223372036854775808 ≤ q) (_ : q ≤ 9223372036854775807) (w : World) :
    Calls Try.prog 11 #[.agg #[.int .i64 p, .int .i64 q]] w fun e w' => e = .returned (.bool true) ∧ Below w.heap.size w w' := by
  obtain ⟨N, zs0, k, hN, hrg, HS, HI⟩ : ∃ (N : Nat) (zs0 : List Int) (k : Int), N ≤ 1000000000 ∧ (∀ z ∈ zs0, Rng z) ∧ Hid (∀ w : World, Calls Try.prog 39 #[.agg #[.int .i64 p, .int .i64 q]] w fun e w' => (∃ B c, e = .returned (.tuple #[.slice B N c, .int .i64 k]) ∧ w'.ownsRow w.heap.size 2 1 (.slice B N c) N (zs0.map (Value.int .i64))) ∧ Below w.heap.size w w') ∧ Hid (∀ w : World, Calls Try.prog 40 #[.agg #[.int .i64 p, .int .i64 q]] w fun e w' => (∃ B c, e = .returned (.tuple #[.slice B N c, .int .i64 k]) ∧ w'.ownsRow w.heap.size 2 1 (.slice B N c) N (zs0.map (Value.int .i64))) ∧ Below w.heap.size w w') :=
    ⟨(ptoL p q).length, ptoL p q, posC p q, (ptoL_len p q), (ptoL_rng p q), fun w => specPto_any p q ⟨by assumption, by assumption⟩ ⟨by assumption, by assumption⟩ w, fun w => implPto_any p q ⟨by assumption, by assumption⟩ ⟨by assumption, by assumption⟩ w⟩
  have HR := Lib.hid hrg
  clear hrg
  go_enter Try.func11, Try.ntmps11
  go_wp2_with fail
  refine (toFraction_any p q _).mono ?_
  rintro e w1 ⟨rfl, hd1⟩
  obtain ⟨hc1, hf1, _⟩ := keepc hd1
  have hb1 : Below w.heap.size w w1 := Below.trans (by go_grown) (hd1.mono (by first | exact Nat.le_refl _ | (simp only [World.size_alloc]; omega)))
  have hs1 : w.heap.size + 1 ≤ w1.heap.size := by have := hd1.size; simp only [World.size_alloc] at this; omega
  have hl1_0 : w.heap.size < w1.heap.size := by omega
  clear hd1
  go_wp2_with fail
  refine (HS.out _).mono ?_
  rintro e w2 ⟨⟨A0, c0, rfl, oW⟩, hd2⟩
  obtain ⟨hc2, hf2, _⟩ := keepc hd2
  have hb2 : Below w.heap.size w w2 := hb1.trans (hd2.mono hb1.size)
  have hs2 : w1.heap.size ≤ w2.heap.size := hd2.size
  have hl2_0 : w.heap.size < w2.heap.size := by omega
  clear hd2 hb1
  have W_2 := Lib.hid oW
  have W_b := Lib.hid oW
  clear oW
  go_wp2_with fail
  refine (toFraction_any p q _).mono ?_
  rintro e w3 ⟨rfl, hd3⟩
  obtain ⟨hc3, hf3, _⟩ := keepc hd3
  have hb3 : Below w.heap.size w w3 := hb2.trans (hd3.mono hb2.size)
  have hs3 : w2.heap.size ≤ w3.heap.size := hd3.size
  have hl3_0 : w.heap.size < w3.heap.size := by omega
  have W_3 := Lib.hid (own_below W_2.out hd3)
  clear hd3 hb2
  go_wp2_with fail
  refine (HI.out _).mono ?_
  rintro e w4 ⟨⟨A1, c1, rfl, oG⟩, hd4⟩
  obtain ⟨hc4, hf4, _⟩ := keepc hd4
  have hb4 : Below w.heap.size w w4 := hb3.trans (hd4.mono hb3.size)
  have hs4 : w3.heap.size ≤ w4.heap.size := hd4.size
  have hl4_0 : w.heap.size < w4.heap.size := by omega
  have W_4 := Lib.hid (own_below W_3.out hd4)
  clear hd4 hb3
  have G_4 := Lib.hid oG
  have G_b := Lib.hid oG
  clear oG
  go_wp2_with fail
  refine (eqInt64S_same A1 N c1 A0 c0 zs0 _ (IRow.of_own G_4.out (by omega) HR.out) (IRow.of_own W_4.out (by omega) HR.out)).mono ?_
  rintro e w5 ⟨rfl, hd5⟩
  obtain ⟨hc5, hf5, _⟩ := keepc hd5
  have hb5 : Below w.heap.size w w5 := hb4.trans (hd5.mono hb4.size)
  have hs5 : w4.heap.size ≤ w5.heap.size := hd5.size
  have hl5_0 : w.heap.size < w5.heap.size := by omega
  have W_5 := Lib.hid (own_below W_4.out hd5)
  have G_5 := Lib.hid (own_below G_4.out hd5)
  clear hd5 hb4
  go_wp2_with fail
  refine (markI_any A1 N c1 _ (zs0.map (Value.int .i64)) 1 _ G_5.out (by omega) (by omega) (by omega)).mono ?_
  rintro e w6 ⟨rfl, ho6, hg6⟩
  have hc6_0_0 : w6.cell? ⟨w.heap.size, 0, none⟩ = w5.cell? ⟨w.heap.size, 0, none⟩ := hg6.cell_far _ (by simp; omega) (by intro e; have := (G_b.out.lt _ e.symm).1; simp at this; omega)
  have hc6_0_1 : w6.cell? ⟨w.heap.size, 1, none⟩ = w5.cell? ⟨w.heap.size, 1, none⟩ := hg6.cell_far _ (by simp; omega) (by intro e; have := (G_b.out.lt _ e.symm).1; simp at this; omega)
  have hb6 : Below w.heap.size w w6 := hb5.grown hg6 hb5.size (fun k hk => Nat.le_trans (by omega) (G_b.out.lt k hk).1)
  have hs6 : w5.heap.size ≤ w6.heap.size := hg6.size
  have hl6_0 : w.heap.size < w6.heap.size := by omega
  have W_6 := Lib.hid (W_5.out.kept hg6 (by cases h0 : (Value.slice A0 N c0).ownBlock with | none => exact Or.inl rfl | some j => exact Or.inr (fun e => by have a := (W_b.out.lt j h0).2; have b := (G_b.out.lt j e.symm).1; omega)))
  have G_6 := Lib.hid ho6
  clear hb5 hg6 ho6
  go_wp2_with fail
  refine (heldI_any A1 N c1 1 _ (IRow.of_own G_6.out (by omega) (rng_mkI N (by omega))) (by omega) (by omega) (by omega)).mono ?_
  rintro e w' ⟨rfl, rfl⟩
  go_wp2_with fail
  refine (toFraction_any p q _).mono ?_
  rintro e w7 ⟨rfl, hd7⟩
  obtain ⟨hc7, hf7, _⟩ := keepc hd7
  have hb7 : Below w.heap.size w w7 := hb6.trans (hd7.mono hb6.size)
  have hs7 : w6.heap.size ≤ w7.heap.size := hd7.size
  have hl7_0 : w.heap.size < w7.heap.size := by omega
  have W_7 := Lib.hid (own_below W_6.out hd7)
  have G_7 := Lib.hid (own_below G_6.out hd7)
  clear hd7 hb6
  go_wp2_with fail
  refine (HI.out _).mono ?_
  rintro e w8 ⟨⟨A2, c2, rfl, oH⟩, hd8⟩
  obtain ⟨hc8, hf8, _⟩ := keepc hd8
  have hb8 : Below w.heap.size w w8 := hb7.trans (hd8.mono hb7.size)
  have hs8 : w7.heap.size ≤ w8.heap.size := hd8.size
  have hl8_0 : w.heap.size < w8.heap.size := by omega
  have W_8 := Lib.hid (own_below W_7.out hd8)
  have G_8 := Lib.hid (own_below G_7.out hd8)
  clear hd8 hb7
  have H_8 := Lib.hid oH
  have H_b := Lib.hid oH
  clear oH
  go_wp2_with fail
  refine (eqInt64S_same A2 N c2 A0 c0 zs0 _ (IRow.of_own H_8.out (by omega) HR.out) (IRow.of_own W_8.out (by omega) HR.out)).mono ?_
  rintro e w9 ⟨rfl, hd9⟩
  obtain ⟨hc9, hf9, _⟩ := keepc hd9
  have hb9 : Below w.heap.size w w9 := hb8.trans (hd9.mono hb8.size)
  have hs9 : w8.heap.size ≤ w9.heap.size := hd9.size
  have hl9_0 : w.heap.size < w9.heap.size := by omega
  have W_9 := Lib.hid (own_below W_8.out hd9)
  have G_9 := Lib.hid (own_below G_8.out hd9)
  have H_9 := Lib.hid (own_below H_8.out hd9)
  clear hd9 hb8
  go_wp2_with fail
  refine (heldI_any A1 N c1 1 _ (IRow.of_own G_9.out (by omega) (rng_mkI N (by omega))) (by omega) (by omega) (by omega)).mono ?_
  rintro e w' ⟨rfl, rfl⟩
  go_wp2_with fail
  go_ret
  exact ⟨rfl, hb9⟩
end Go.Proofs.Ytbpaihbpaeoljaa
