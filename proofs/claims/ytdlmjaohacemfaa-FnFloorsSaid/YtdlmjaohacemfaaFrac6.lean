/-
  Contracts of fractions made and of sums of terms; the walks of the laws FnExactMakeFraction and FnExactSumOfTerms.
  No condition but those of the laws' own texts.
-/
import Derived.Test.YtdlmjaohacemfaaProg
import Derived.Test.YtdlmjaohacemfaaMem
import Derived.Test.YtdlmjaohacemfaaBasic
import Derived.Test.YtdlmjaohacemfaaFrac
import Derived.Test.YtdlmjaohacemfaaVfrac
import Derived.Test.YtdlmjaohacemfaaFrac2
import Derived.Test.YtdlmjaohacemfaaFrac3
import Derived.Test.YtdlmjaohacemfaaLaw2
import Derived.Test.YtdlmjaohacemfaaAllk
import Derived.Test.YtdlmjaohacemfaaInts
import Derived.Test.YtdlmjaohacemfaaTerms
import Derived.Handy
import Derived.BigQuiet
import Derived.Deep.QuietTactic
import Derived.Deep.RegionHeld3
import Derived.Deep.DrawnRows
import Derived.Deep.DeepCutAuto
namespace Go.Proofs.Ytdlmjaohacemfaa
open Go.RowKit
set_option linter.unusedVariables false
attribute [local go_sem ↓] Go.wp_at_zero Go.wp_at_succ


def makR (num den : Int) : Int × Int × Int := if inB num (-1000000000000000000) 1000000000000000000 = true ∧ inB den (-1000000000000000000) 1000000000000000000 = true ∧ den ≠ 0 then plR num den else (0, 0, 2)
set_option maxHeartbeats 1600000 in
theorem implMake_any (num den : Int) (w : World) : Calls Try.prog 10 #[.int .i64 num, .int .i64 den] w fun e w' =>
    e = .returned (.tuple #[.agg #[.int .i64 (makR num den).1, .int .i64 (makR num den).2.1], .int .i64 (makR num den).2.2]) ∧ Below w.heap.size w w' := by
  cases h1 : inB num (-1000000000000000000) 1000000000000000000
  · rw [show makR num den = (0, 0, 2) from if_neg (fun h => by rw [h1] at h; cases h.1)]
    go_enter Try.func10, Try.ntmps10
    go_wp2_with (go_at_call 38; refine (within_any _ _ _ _).mono ?_; rintro e w1 ⟨rfl, rfl⟩)
    exact bodyPost_ret (v := .tuple #[.agg #[.int .i64 0, .int .i64 0], .int .i64 2]) (by simp [results, Try.results10, go_sem]) rfl ⟨rfl, by go_grown⟩
  · cases h2 : inB den (-1000000000000000000) 1000000000000000000
    · rw [show makR num den = (0, 0, 2) from if_neg (fun h => by rw [h2] at h; cases h.2.1)]
      go_enter Try.func10, Try.ntmps10
      go_wp2_with (go_at_call 38; refine (within_any _ _ _ _).mono ?_; rintro e w1 ⟨rfl, rfl⟩)
      exact bodyPost_ret (v := .tuple #[.agg #[.int .i64 0, .int .i64 0], .int .i64 2]) (by simp [results, Try.results10, go_sem]) rfl ⟨rfl, by go_grown⟩
    · by_cases h3 : den = 0
      · rw [show makR num den = (0, 0, 2) from if_neg (fun h => h.2.2 h3)]
        have h3' : (den == 0) = true := by rw [h3]; rfl
        have h3a : den ≤ 0 := by omega
        have h3b : 0 ≤ den := by omega
        clear h3
        go_enter Try.func10, Try.ntmps10
        go_wp2_with (go_at_call 38; refine (within_any _ _ _ _).mono ?_; rintro e w1 ⟨rfl, rfl⟩)
        exact bodyPost_ret (v := .tuple #[.agg #[.int .i64 0, .int .i64 0], .int .i64 2]) (by simp [results, Try.results10, go_sem]) rfl ⟨rfl, by go_grown⟩
      · rw [show makR num den = plR num den from if_pos ⟨h1, h2, h3⟩]
        have h3' : (den == 0) = false := by rw [beq_eq_false_iff_ne]; exact h3
        obtain ⟨a1, a2⟩ := inB_iff.1 h1
        obtain ⟨b1, b2⟩ := inB_iff.1 h2
        have H3 := Lib.hid (show den < 0 ∨ 0 < den by omega)
        clear h3
        go_enter Try.func10, Try.ntmps10
        go_wp2_with (go_at_call 38; refine (within_any _ _ _ _).mono ?_; rintro e w1 ⟨rfl, rfl⟩)
        go_wp2_with fail
        refine (plainOf_any num den _ (by omega) (by omega) (by omega) (by omega) H3.out).mono ?_
        rintro e w1 ⟨rfl, hb1⟩
        obtain ⟨hc1, hf1, hs1⟩ := keepc hb1
        have hB1 : Below w.heap.size w w1 := Below.trans (by go_grown) (hb1.mono (by first | exact Nat.le_refl _ | (simp only [World.size_alloc]; omega)))
        try simp only [World.size_alloc] at hs1
        have hl1_0 : w.heap.size < w1.heap.size := by omega
        have z0 : w1.cell? ⟨w.heap.size, 0, none⟩ = some (.int .i64 0) := by rw [hc1 _ _ (by simp only [World.size_alloc]; omega)]; simp [go_sem]
        have z1 : w1.cell? ⟨w.heap.size, 1, none⟩ = some (.int .i64 0) := by rw [hc1 _ _ (by simp only [World.size_alloc]; omega)]; simp [go_sem]
        go_wp2_with fail
        exact bodyPost_ret (v := .tuple #[.agg #[.int .i64 (plR num den).1, .int .i64 (plR num den).2.1], .int .i64 (plR num den).2.2]) (by simp [results, Try.results10, go_sem, pair_set z0 z1]) rfl ⟨rfl, (hB1.setCell (p := ⟨w.heap.size, 0, none⟩) (Nat.le_refl _) _).setCell (p := ⟨w.heap.size, 1, none⟩) (Nat.le_refl _) _⟩
/-- The sum of all terms but the first, and a code. -/
def sumR (zs : List Int) : Int × Int := if trmB zs = true then (zs.tail.sum, 0) else (0, 1)
theorem sum_take {zs : List Int} {k : Nat} {z : Int} (h : zs[k]? = some z) : (zs.take (k + 1)).sum = (zs.take k).sum + z := by
  rw [List.take_add_one, h, List.sum_append]; simp
theorem trm_tail {zs : List Int} (h : trmB zs = true) {k : Nat} {z : Int} (hz : zs.tail[k]? = some z) : 1 ≤ z ∧ z ≤ 1000000000 := by
  have := (trmB_iff.1 h).2.2 (k + 1) z (by rw [List.getElem?_tail] at hz; exact hz)
  rw [if_neg (by omega)] at this
  exact this
set_option maxHeartbeats 1600000 in
theorem implSum_any (A : Option Addr) (n cap : Nat) (zs : List Int) (w : World) (h : IRow w A n zs) (hcap : n ≤ cap) :
    Calls Try.prog 14 #[.slice A n cap] w fun e w' => e = .returned (.tuple #[.int .i64 (sumR zs).1, .int .i64 (sumR zs).2]) ∧ w = w' := by
  have hbd := h.bd
  cases hv : trmB zs
  · rw [show sumR zs = (0, 1) from if_neg (by rw [hv]; decide)]
    go_enter Try.func14, Try.ntmps14
    go_wp2_with fail
    refine (validTerms_any A n cap zs _ h hcap).mono ?_
    rintro e w1 ⟨rfl, rfl⟩
    go_wp2_with fail
    go_ret2
    exact ⟨rfl, rfl⟩
  · obtain ⟨X, hX⟩ : ∃ X, X = sumR zs := ⟨_, rfl⟩
    rw [← hX]
    have HX := Lib.hid (hX.trans (show sumR zs = (zs.tail.sum, 0) from if_pos hv))
    obtain ⟨l1, l2, _⟩ := trmB_iff.1 hv
    have hn1 : 1 ≤ n := by rw [← h.len]; exact l1
    have hn2 : n ≤ 60 := by rw [← h.len]; exact l2
    obtain ⟨ad, z, rfl, _, _, _, _⟩ := h.at_ (k := 0) (by omega)
    have ht := h.tail hn1 cap hcap
    have Hv := Lib.hid hv
    have hw := Lib.hid h
    clear hX l1 l2 h
    by_cases hc1 : cap = 1
    · obtain rfl : n = 1 := by omega
      subst hc1
      have HT : Hid (zs.tail = []) := List.eq_nil_of_length_eq_zero (by rw [List.length_tail, hw.out.len])
      clear ht
      go_enter Try.func14, Try.ntmps14
      go_wp2_with fail
      refine (validTerms_any _ 1 1 zs _ hw.out (by omega)).mono ?_
      rintro e w1 ⟨rfl, rfl⟩
      go_wp2_with fail
      go_loop [4, 13] (fun a i => a = .int .i64 0 ∧ i = .int .i64 0) (fun _ _ => 0)
      case atStart => exact ⟨rfl, rfl⟩
      case round =>
        obtain ⟨rfl, rfl⟩ := hrel
        go_wp2
        go_ret2
        have e1 := HX.out
        rw [HT.out] at e1
        exact ⟨ret_int2 (by rw [e1]; rfl) (by rw [e1]), rfl⟩
    · have ht' : IRow w (some ⟨ad.block, ad.off + 1, none⟩) (n - 1) zs.tail := by rw [if_neg hc1] at ht; exact ht
      have HT := Lib.hid ht'
      clear ht ht'
      go_enter Try.func14, Try.ntmps14
      go_wp2_with fail
      refine (validTerms_any _ n cap zs _ hw.out hcap).mono ?_
      rintro e w1 ⟨rfl, rfl⟩
      go_wp2_with fail
      go_loop [4, 13] (fun a i => ∃ (k : Nat) (x : Int), k ≤ n - 1 ∧ i = .int .i64 k ∧ a = .int .i64 x ∧ 0 ≤ x ∧ x ≤ 1000000000 * k ∧ Hid (x = (zs.tail.take k).sum)) (fun _ i => n - (intOf i).toNat)
      case atStart => exact ⟨0, 0, Nat.zero_le _, rfl, rfl, by omega, by omega, by show (0 : Int) = _; rfl⟩
      case round =>
        obtain ⟨k, x, hk, rfl, rfl, x1, x2, HS⟩ := hrel
        by_cases hlt : k < n - 1
        · obtain ⟨ad', z', he, hz, _, _, hc⟩ := HT.out.at_ hlt
          injection he with he
          subst he
          rw [addr_off] at hc
          obtain ⟨p1, p2⟩ := trm_tail Hv.out hz
          have HN : Hid (x + z' = (zs.tail.take (k + 1)).sum) := by show x + z' = _; rw [sum_take hz, ← HS.out]
          clear hz
          go_wp2
          go_round
          case rel => exact ⟨k + 1, x + z', by omega, by go_num, rfl, by omega, by omega, HN⟩
          case measure => simp [intOf]; omega
        · have hkn : n - 1 = k := by omega
          have HK : Hid (zs.tail.take k = zs.tail) := List.take_of_length_le (by rw [List.length_tail, hw.out.len]; omega)
          clear hkn
          go_wp2
          go_ret2
          exact ⟨ret_int2 (by rw [HX.out, HS.out, HK.out]) (by rw [HX.out]), rfl⟩
end Go.Proofs.Ytdlmjaohacemfaa
