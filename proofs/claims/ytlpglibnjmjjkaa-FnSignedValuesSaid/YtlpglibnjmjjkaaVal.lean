/-
  The value of terms: contracts of the exported functions; the walk of the law FnExactValueOfTerms.
  No condition but those of the law's own text.
-/
import Derived.Test.YtlpglibnjmjjkaaProg
import Derived.Test.YtlpglibnjmjjkaaMem
import Derived.Test.YtlpglibnjmjjkaaBasic
import Derived.Test.YtlpglibnjmjjkaaAllk
import Derived.Test.YtlpglibnjmjjkaaInts
import Derived.Test.YtlpglibnjmjjkaaFrac
import Derived.Test.YtlpglibnjmjjkaaFrac2
import Derived.Test.YtlpglibnjmjjkaaFrac3
import Derived.Test.YtlpglibnjmjjkaaTerms
import Derived.Test.YtlpglibnjmjjkaaMarks
import Derived.Test.YtlpglibnjmjjkaaOwn
import Derived.Test.YtlpglibnjmjjkaaCvg
import Derived.Test.YtlpglibnjmjjkaaCvgL
import Derived.Handy
import Derived.BigQuiet
import Derived.Deep.QuietTactic
namespace Go.Proofs.Ytlpglibnjmjjkaa
open Go.RowKit
set_option linter.unusedVariables false
set_option linter.unusedSimpArgs false
attribute [local go_sem ↓] Go.wp_at_zero Go.wp_at_succ

theorem own_cellP {w : World} {base e n c g : Nat} {zs : List (Int × Int)} {k : Nat} {z : Int × Int} (h : w.ownsRow base e 2 (.slice (some ⟨g, 0, none⟩) n c) n (prs zs)) (hz : zs[k]? = some z) :
    w.cell? ⟨g, k * 2, none⟩ = some (.int .i64 z.1) ∧ w.cell? ⟨g, k * 2 + 1, none⟩ = some (.int .i64 z.2) := by
  have hl := own_lenP h
  have hk : k < n := by
    rcases Nat.lt_or_ge k zs.length with h' | h'
    · omega
    · rw [List.getElem?_eq_none h'] at hz; cases hz
  rw [h.cellAt (k * 2) (by omega), h.cellAt (k * 2 + 1) (by omega)]
  exact ⟨prs_get1 zs k z hz, prs_get2 zs k z hz⟩
/-- The last one. -/
def lastP (l : List (Int × Int)) : Int × Int := l.getD (l.length - 1) (0, 0)
theorem lastP_at {l : List (Int × Int)} {n : Nat} (hl : l.length = n) (hn : 1 ≤ n) : l[n - 1]? = some (lastP l) := by
  unfold lastP
  rw [hl, List.getD_eq_getElem?_getD, List.getElem?_eq_getElem (by omega)]; rfl

/-- The value of terms, and a code. -/
def valT (zs : List Int) : Int × Int × Int := if trmB zs = true then (if cvgB zs = true then ((lastP (cvgL zs)).1, (lastP (cvgL zs)).2, 0) else (0, 0, 5)) else (0, 0, 1)

set_option maxHeartbeats 800000 in
theorem implVal_any (A : Option Addr) (n cap : Nat) (zs : List Int) (w : World) (h : IRow w A n zs) (hcap : n ≤ cap) :
    Calls Try.prog 21 #[.slice A n cap] w fun e w' => e = .returned (.tuple #[.agg #[.int .i64 (valT zs).1, .int .i64 (valT zs).2.1], .int .i64 (valT zs).2.2]) ∧ Below w.heap.size w w' := by
  have HC := Lib.hid (implCvf_any A n cap zs _ (h.alloc (.cells #[.int .i64 0, .int .i64 0] 30)) hcap)
  by_cases ht : trmB zs = true ∧ cvgB zs = true
  · obtain ⟨h1, h2⟩ := ht
    rw [show valT zs = ((lastP (cvgL zs)).1, (lastP (cvgL zs)).2, 0) from by unfold valT; rw [if_pos h1, if_pos h2]]
    have hl : (cvgL zs).length = n := (cvg_full h2).trans h.len
    have hn1 : 1 ≤ n := by have := (trm_in h1).1; rw [h.len] at this; exact this
    have hz := lastP_at hl hn1
    rw [show cvfL zs = cvgL zs from if_pos h1, show cvfC zs = 0 from by unfold cvfC; rw [if_pos h1, if_pos h2]] at HC
    unfold ResF at HC
    rw [hl] at HC
    generalize cvgL zs = fs at *
    have hbd := h.bd
    generalize lastP fs = X at *
    obtain ⟨x, y⟩ := X
    have HZ := Lib.hid hz
    clear hl hz h1 h2 h
    go_enter Try.func21, Try.ntmps21
    go_wp2_with fail
    refine HC.out.mono ?_
    rintro e w1 ⟨⟨B, c, rfl, ho⟩, hb1⟩
    obtain ⟨g, rfl, hg1, hg2⟩ := own_some ho (by omega)
    obtain ⟨k0, k1⟩ := own_cellP ho HZ.out
    simp only at k0 k1
    obtain ⟨hc1, hf1, hs1⟩ := keepc hb1
    have hB1 : Below w.heap.size w w1 := Below.trans (by go_grown) (hb1.mono (by simp))
    have hl1 : w.heap.size < w1.heap.size := by simp at hs1; omega
    have z0 : w1.cell? ⟨w.heap.size, 0, none⟩ = some (.int .i64 0) := by rw [hc1 _ _ (by simp)]; simp [go_sem]
    have z1 : w1.cell? ⟨w.heap.size, 1, none⟩ = some (.int .i64 0) := by rw [hc1 _ _ (by simp)]; simp [go_sem]
    clear ho hb1 HC
    go_wp2_with fail
    exact bodyPost_ret (v := .tuple #[.agg #[.int .i64 x, .int .i64 y], .int .i64 0]) (by simp [results, Try.results21, go_sem, pair_set z0 z1]) rfl ⟨rfl, (hB1.setCell (p := ⟨w.heap.size, 0, none⟩) (Nat.le_refl _) _).setCell (p := ⟨w.heap.size, 1, none⟩) (Nat.le_refl _) _⟩
  · have hv : valT zs = (0, 0, cvfC zs) ∧ cvfC zs ≠ 0 := by
      unfold valT cvfC
      by_cases h1 : trmB zs = true
      · have h2 : ¬ cvgB zs = true := fun h2 => ht ⟨h1, h2⟩
        rw [if_pos h1, if_neg h2, if_pos h1, if_neg h2]; simp
      · rw [if_neg h1, if_neg h1]; simp
    obtain ⟨hv, hk⟩ := hv
    rw [hv]
    have hne : (cvfC zs != 0) = true := by rw [bne_iff_ne]; exact hk
    generalize cvfC zs = k at *
    unfold ResF at HC
    generalize cvfL zs = fs at *
    clear hv hk ht
    go_enter Try.func21, Try.ntmps21
    go_wp2_with fail
    refine HC.out.mono ?_
    rintro e w1 ⟨⟨B, c, rfl, ho⟩, hb1⟩
    obtain ⟨hc1, hf1, hs1⟩ := keepc hb1
    have hB1 : Below w.heap.size w w1 := Below.trans (by go_grown) (hb1.mono (by simp))
    have hl1 : w.heap.size < w1.heap.size := by simp at hs1; omega
    have z0 : w1.cell? ⟨w.heap.size, 0, none⟩ = some (.int .i64 0) := by rw [hc1 _ _ (by simp)]; simp [go_sem]
    have z1 : w1.cell? ⟨w.heap.size, 1, none⟩ = some (.int .i64 0) := by rw [hc1 _ _ (by simp)]; simp [go_sem]
    clear ho hb1 HC
    go_wp2_with fail
    exact bodyPost_ret (v := .tuple #[.agg #[.int .i64 0, .int .i64 0], .int .i64 k]) (by simp [results, Try.results21, go_sem, pair_set z0 z1]) rfl ⟨rfl, (hB1.setCell (p := ⟨w.heap.size, 0, none⟩) (Nat.le_refl _) _).setCell (p := ⟨w.heap.size, 1, none⟩) (Nat.le_refl _) _⟩
set_option maxHeartbeats 800000 in
theorem specVal_any (A : Option Addr) (n cap : Nat) (zs : List Int) (w : World) (h : IRow w A n zs) (hcap : n ≤ cap) :
    Calls Try.prog 41 #[.slice A n cap] w fun e w' => e = .returned (.tuple #[.agg #[.int .i64 (valT zs).1, .int .i64 (valT zs).2.1], .int .i64 (valT zs).2.2]) ∧ Below w.heap.size w w' := by
  have HV := Lib.hid (l03Ok_any A n cap zs _ (h.alloc (.cells #[.int .i64 0, .int .i64 0] 30)))
  cases h1 : trmB zs
  · rw [show valT zs = (0, 0, 1) from if_neg (by simp [h1])]
    rw [h1] at HV
    go_enter Try.func41, Try.ntmps41
    go_wp2_with fail
    refine HV.out.mono ?_
    rintro e w' ⟨rfl, rfl⟩
    go_wp2_with fail
    go_returns
    exact ⟨rfl, by go_grown⟩
  · have hn : n ≤ 60 := by have := (trm_in h1).2.1; rw [h.len] at this; exact this
    have HC := Lib.hid (l03Convergents_any A n cap zs _ (h.alloc (.cells #[.int .i64 0, .int .i64 0] 30)) (by omega) (trm_in2 h1))
    rw [h1] at HV
    cases h2 : cvgB zs
    · rw [show valT zs = (0, 0, 5) from by unfold valT; rw [if_pos h1, if_neg (by simp [h2])]]
      rw [h2] at HC
      unfold ResFb at HC
      generalize cvgL zs = fs at *
      clear h1
      go_enter Try.func41, Try.ntmps41
      go_wp2_with fail
      refine HV.out.mono ?_
      rintro e w' ⟨rfl, rfl⟩
      go_wp2_with fail
      refine HC.out.mono ?_
      rintro e w1 ⟨⟨B, c, rfl, ho⟩, hb1⟩
      obtain ⟨hc1, hf1, hs1⟩ := keepc hb1
      have hB1 : Below w.heap.size w w1 := Below.trans (by go_grown) (hb1.mono (by simp))
      have hl1 : w.heap.size < w1.heap.size := by simp at hs1; omega
      have z0 : w1.cell? ⟨w.heap.size, 0, none⟩ = some (.int .i64 0) := by rw [hc1 _ _ (by simp)]; simp [go_sem]
      have z1 : w1.cell? ⟨w.heap.size, 1, none⟩ = some (.int .i64 0) := by rw [hc1 _ _ (by simp)]; simp [go_sem]
      clear ho hb1 HC
      go_wp2_with fail
      exact bodyPost_ret (v := .tuple #[.agg #[.int .i64 0, .int .i64 0], .int .i64 5]) (by simp [results, Try.results41, go_sem, pair_set z0 z1]) rfl ⟨rfl, (hB1.setCell (p := ⟨w.heap.size, 0, none⟩) (Nat.le_refl _) _).setCell (p := ⟨w.heap.size, 1, none⟩) (Nat.le_refl _) _⟩
    · rw [show valT zs = ((lastP (cvgL zs)).1, (lastP (cvgL zs)).2, 0) from by unfold valT; rw [if_pos h1, if_pos h2]]
      have hl : (cvgL zs).length = n := (cvg_full h2).trans h.len
      have hn1 : 1 ≤ n := by have := (trm_in h1).1; rw [h.len] at this; exact this
      have hz := lastP_at hl hn1
      rw [h2] at HC
      unfold ResFb at HC
      rw [hl] at HC
      generalize cvgL zs = fs at *
      generalize lastP fs = X at *
      obtain ⟨x, y⟩ := X
      have HZ := Lib.hid hz
      clear hl hz h1 h2 h
      go_enter Try.func41, Try.ntmps41
      go_wp2_with fail
      refine HV.out.mono ?_
      rintro e w' ⟨rfl, rfl⟩
      go_wp2_with fail
      refine HC.out.mono ?_
      rintro e w1 ⟨⟨B, c, rfl, ho⟩, hb1⟩
      obtain ⟨g, rfl, hg1, hg2⟩ := own_some ho (by omega)
      obtain ⟨k0, k1⟩ := own_cellP ho HZ.out
      simp only at k0 k1
      obtain ⟨hc1, hf1, hs1⟩ := keepc hb1
      have hB1 : Below w.heap.size w w1 := Below.trans (by go_grown) (hb1.mono (by simp))
      have hl1 : w.heap.size < w1.heap.size := by simp at hs1; omega
      have z0 : w1.cell? ⟨w.heap.size, 0, none⟩ = some (.int .i64 0) := by rw [hc1 _ _ (by simp)]; simp [go_sem]
      have z1 : w1.cell? ⟨w.heap.size, 1, none⟩ = some (.int .i64 0) := by rw [hc1 _ _ (by simp)]; simp [go_sem]
      clear ho hb1 HC
      go_wp2_with fail
      exact bodyPost_ret (v := .tuple #[.agg #[.int .i64 x, .int .i64 y], .int .i64 0]) (by simp [results, Try.results41, go_sem, pair_set z0 z1]) rfl ⟨rfl, (hB1.setCell (p := ⟨w.heap.size, 0, none⟩) (Nat.le_refl _) _).setCell (p := ⟨w.heap.size, 1, none⟩) (Nat.le_refl _) _⟩
end Go.Proofs.Ytlpglibnjmjjkaa
