/-
  The value of terms with signs, and what is made of it: contracts of the exported functions; the walks of the laws FnExactValueOfSigned, FnExactTermsFromSigned and FnExactSignedFromTerms.
  No condition but those of the laws' own texts.
-/
import Derived.Test.YtlpglibnjmjjkaaProg
import Derived.Test.YtlpglibnjmjjkaaMem
import Derived.Test.YtlpglibnjmjjkaaBasic
import Derived.Test.YtlpglibnjmjjkaaAllk
import Derived.Test.YtlpglibnjmjjkaaInts
import Derived.Test.YtlpglibnjmjjkaaSig
import Derived.Test.YtlpglibnjmjjkaaFrac
import Derived.Test.YtlpglibnjmjjkaaFrac2
import Derived.Test.YtlpglibnjmjjkaaFrac3
import Derived.Test.YtlpglibnjmjjkaaSgn
import Derived.Test.YtlpglibnjmjjkaaMarks
import Derived.Test.YtlpglibnjmjjkaaOwn
import Derived.Test.YtlpglibnjmjjkaaExp
import Derived.Test.YtlpglibnjmjjkaaTerms
import Derived.Test.YtlpglibnjmjjkaaCvg
import Derived.Test.YtlpglibnjmjjkaaCvgL
import Derived.Test.YtlpglibnjmjjkaaVal
import Derived.Test.YtlpglibnjmjjkaaKnd
import Derived.Test.YtlpglibnjmjjkaaSct
import Derived.Handy
import Derived.BigQuiet
import Derived.Deep.QuietTactic
namespace Go.Proofs.Ytlpglibnjmjjkaa
open Go.RowKit
set_option linter.unusedVariables false
set_option linter.unusedSimpArgs false
attribute [local go_sem ↓] Go.wp_at_zero Go.wp_at_succ

/-- The value of terms with signs, and a code. -/
def vlsT (zs : List (Int × Int)) : Int × Int × Int := if scfC zs = 0 then ((lastP (scfL zs)).1, (lastP (scfL zs)).2, 0) else (0, 0, scfC zs)
theorem scf_ok {zs : List (Int × Int)} (h : scfC zs = 0) : sgnB zs = true ∧ (scfL zs).length = zs.length ∧ 1 ≤ zs.length ∧ vfB (lastP (scfL zs)).1 (lastP (scfL zs)).2 = true := by
  unfold scfC at h
  split at h
  · rename_i hs
    obtain ⟨h1, h2, h3⟩ := scvR_len zs 1 0 0 1
    have hl : (scfL zs).length = zs.length := by rw [show scfL zs = (scvR zs 1 0 0 1).1 from if_pos hs]; exact h1 h
    have hn := (sgn_in hs).1
    refine ⟨hs, hl, hn, ?_⟩
    have hz := lastP_at hl hn
    have hm := List.mem_of_getElem? hz
    rw [show scfL zs = (scvR zs 1 0 0 1).1 from if_pos hs] at hm ⊢
    exact h3 _ hm
  · cases h
set_option maxHeartbeats 800000 in
theorem implVls_any (A : Option Addr) (n cap : Nat) (zs : List (Int × Int)) (w : World) (h : PRow w A n zs) (hcap : n ≤ cap) :
    Calls Try.prog 8 #[.slice A n cap] w fun e w' => e = .returned (.tuple #[.agg #[.int .i64 (vlsT zs).1, .int .i64 (vlsT zs).2.1], .int .i64 (vlsT zs).2.2]) ∧ Below w.heap.size w w' := by
  have HC := Lib.hid (implScf_any A n cap zs _ (h.alloc (.cells #[.int .i64 0, .int .i64 0] 30)) hcap)
  unfold ResF at HC
  by_cases ht : scfC zs = 0
  · obtain ⟨hs, hl, hn1, hvf⟩ := scf_ok ht
    rw [show vlsT zs = ((lastP (scfL zs)).1, (lastP (scfL zs)).2, 0) from if_pos ht]
    have hlen := h.len
    have hbd := h.bd
    rw [hlen] at hl hn1
    have hz := lastP_at hl hn1
    rw [ht, hl] at HC
    generalize scfL zs = fs at *
    generalize lastP fs = X at *
    obtain ⟨x, y⟩ := X
    have HZ := Lib.hid hz
    clear hl hz hs ht hvf hlen h
    go_enter Try.func8, Try.ntmps8
    go_wp2_with fail
    refine HC.out.mono ?_
    rintro e w1 ⟨⟨B, c, rfl, ho⟩, hb1⟩
    obtain ⟨g, rfl, hg1, hg2⟩ := own_some ho (by omega)
    obtain ⟨k0, k1⟩ := own_cellP ho HZ.out
    simp only at k0 k1
    obtain ⟨hc1, hf1, hs1⟩ := keepc hb1
    have hB1 : Below w.heap.size w w1 := Below.trans (by go_grown) (hb1.mono (by simp))
    have hl1 : w.heap.size < w1.heap.size := by simp at hs1; omega
    have z0 : w1.cell? ⟨w.heap.size, 0, none⟩ = some (.int .i64 0) := by rw [hc1 _ _ (by simp)]; simp [go_sem]
    have z1 : w1.cell? ⟨w.heap.size, 1, none⟩ = some (.int .i64 0) := by rw [hc1 _ _ (by simp)]; simp [go_sem]
    clear ho hb1 HC
    go_wp2_with fail
    exact bodyPost_ret (v := .tuple #[.agg #[.int .i64 x, .int .i64 y], .int .i64 0]) (by simp [results, Try.results8, go_sem, pair_set z0 z1]) rfl ⟨rfl, (hB1.setCell (p := ⟨w.heap.size, 0, none⟩) (Nat.le_refl _) _).setCell (p := ⟨w.heap.size, 1, none⟩) (Nat.le_refl _) _⟩
  · rw [show vlsT zs = (0, 0, scfC zs) from if_neg ht]
    have hne : (scfC zs != 0) = true := by rw [bne_iff_ne]; exact ht
    generalize scfC zs = k at *
    generalize scfL zs = fs at *
    clear ht
    go_enter Try.func8, Try.ntmps8
    go_wp2_with fail
    refine HC.out.mono ?_
    rintro e w1 ⟨⟨B, c, rfl, ho⟩, hb1⟩
    obtain ⟨hc1, hf1, hs1⟩ := keepc hb1
    have hB1 : Below w.heap.size w w1 := Below.trans (by go_grown) (hb1.mono (by simp))
    have hl1 : w.heap.size < w1.heap.size := by simp at hs1; omega
    have z0 : w1.cell? ⟨w.heap.size, 0, none⟩ = some (.int .i64 0) := by rw [hc1 _ _ (by simp)]; simp [go_sem]
    have z1 : w1.cell? ⟨w.heap.size, 1, none⟩ = some (.int .i64 0) := by rw [hc1 _ _ (by simp)]; simp [go_sem]
    clear ho hb1 HC
    go_wp2_with fail
    exact bodyPost_ret (v := .tuple #[.agg #[.int .i64 0, .int .i64 0], .int .i64 k]) (by simp [results, Try.results8, go_sem, pair_set z0 z1]) rfl ⟨rfl, (hB1.setCell (p := ⟨w.heap.size, 0, none⟩) (Nat.le_refl _) _).setCell (p := ⟨w.heap.size, 1, none⟩) (Nat.le_refl _) _⟩
set_option maxHeartbeats 800000 in
theorem l04Value_any (A : Option Addr) (n cap : Nat) (zs : List (Int × Int)) (w : World) (h : PRow w A n zs) (hs : sgnB zs = true) :
    Calls Try.prog 56 #[.slice A n cap] w fun e w' => e = .returned (.tuple #[.agg #[.int .i64 (vlsT zs).1, .int .i64 (vlsT zs).2.1], .int .i64 (vlsT zs).2.2]) ∧ Below w.heap.size w w' := by
  have HC := Lib.hid (l04Convergents_any A n cap zs _ (h.alloc (.cells #[.int .i64 0, .int .i64 0] 30)) hs)
  rw [show (scvR zs 1 0 0 1).1 = scfL zs from (if_pos hs).symm, show (scvR zs 1 0 0 1).2 = scfC zs from (if_pos hs).symm] at HC
  unfold ResF at HC
  by_cases ht : scfC zs = 0
  · obtain ⟨_, hl, hn1, hvf⟩ := scf_ok ht
    rw [show vlsT zs = ((lastP (scfL zs)).1, (lastP (scfL zs)).2, 0) from if_pos ht]
    have hlen := h.len
    have hbd := h.bd
    rw [hlen] at hl hn1
    have hz := lastP_at hl hn1
    rw [ht, hl] at HC
    generalize scfL zs = fs at *
    generalize lastP fs = X at *
    obtain ⟨x, y⟩ := X
    have HZ := Lib.hid hz
    clear hl hz hs ht hvf hlen h
    go_enter Try.func56, Try.ntmps56
    go_wp2_with fail
    refine HC.out.mono ?_
    rintro e w1 ⟨⟨B, c, rfl, ho⟩, hb1⟩
    obtain ⟨g, rfl, hg1, hg2⟩ := own_some ho (by omega)
    obtain ⟨k0, k1⟩ := own_cellP ho HZ.out
    simp only at k0 k1
    obtain ⟨hc1, hf1, hs1⟩ := keepc hb1
    have hB1 : Below w.heap.size w w1 := Below.trans (by go_grown) (hb1.mono (by simp))
    have hl1 : w.heap.size < w1.heap.size := by simp at hs1; omega
    have z0 : w1.cell? ⟨w.heap.size, 0, none⟩ = some (.int .i64 0) := by rw [hc1 _ _ (by simp)]; simp [go_sem]
    have z1 : w1.cell? ⟨w.heap.size, 1, none⟩ = some (.int .i64 0) := by rw [hc1 _ _ (by simp)]; simp [go_sem]
    clear ho hb1 HC
    go_wp2_with fail
    exact bodyPost_ret (v := .tuple #[.agg #[.int .i64 x, .int .i64 y], .int .i64 0]) (by simp [results, Try.results56, go_sem, pair_set z0 z1]) rfl ⟨rfl, (hB1.setCell (p := ⟨w.heap.size, 0, none⟩) (Nat.le_refl _) _).setCell (p := ⟨w.heap.size, 1, none⟩) (Nat.le_refl _) _⟩
  · rw [show vlsT zs = (0, 0, scfC zs) from if_neg ht]
    have hne : (scfC zs != 0) = true := by rw [bne_iff_ne]; exact ht
    generalize scfC zs = k at *
    generalize scfL zs = fs at *
    clear ht hs
    go_enter Try.func56, Try.ntmps56
    go_wp2_with fail
    refine HC.out.mono ?_
    rintro e w1 ⟨⟨B, c, rfl, ho⟩, hb1⟩
    obtain ⟨hc1, hf1, hs1⟩ := keepc hb1
    have hB1 : Below w.heap.size w w1 := Below.trans (by go_grown) (hb1.mono (by simp))
    have hl1 : w.heap.size < w1.heap.size := by simp at hs1; omega
    have z0 : w1.cell? ⟨w.heap.size, 0, none⟩ = some (.int .i64 0) := by rw [hc1 _ _ (by simp)]; simp [go_sem]
    have z1 : w1.cell? ⟨w.heap.size, 1, none⟩ = some (.int .i64 0) := by rw [hc1 _ _ (by simp)]; simp [go_sem]
    clear ho hb1 HC
    go_wp2_with fail
    exact bodyPost_ret (v := .tuple #[.agg #[.int .i64 0, .int .i64 0], .int .i64 k]) (by simp [results, Try.results56, go_sem, pair_set z0 z1]) rfl ⟨rfl, (hB1.setCell (p := ⟨w.heap.size, 0, none⟩) (Nat.le_refl _) _).setCell (p := ⟨w.heap.size, 1, none⟩) (Nat.le_refl _) _⟩
set_option maxHeartbeats 800000 in
theorem specVls_any (A : Option Addr) (n cap : Nat) (zs : List (Int × Int)) (w : World) (h : PRow w A n zs) (hcap : n ≤ cap) :
    Calls Try.prog 30 #[.slice A n cap] w fun e w' => e = .returned (.tuple #[.agg #[.int .i64 (vlsT zs).1, .int .i64 (vlsT zs).2.1], .int .i64 (vlsT zs).2.2]) ∧ Below w.heap.size w w' := by
  have HV := Lib.hid (l04Ok_any A n cap zs _ (h.alloc (.cells #[.int .i64 0, .int .i64 0] 30)))
  cases hv : sgnB zs
  · rw [show vlsT zs = (0, 0, 1) from by unfold vlsT; rw [show scfC zs = 1 from if_neg (by simp [hv])]; rfl]
    rw [hv] at HV
    go_enter Try.func30, Try.ntmps30
    go_wp2_with fail
    refine HV.out.mono ?_
    rintro e w' ⟨rfl, rfl⟩
    go_wp2_with fail
    go_returns
    exact ⟨rfl, by go_grown⟩
  · have HC := Lib.hid (l04Value_any A n cap zs _ (h.alloc (.cells #[.int .i64 0, .int .i64 0] 30)) hv)
    rw [hv] at HV
    generalize vlsT zs = X at *
    obtain ⟨x, y, k⟩ := X
    clear hv h
    go_enter Try.func30, Try.ntmps30
    go_wp2_with fail
    refine HV.out.mono ?_
    rintro e w' ⟨rfl, rfl⟩
    go_wp2_with fail
    refine HC.out.mono ?_
    rintro e w1 ⟨rfl, hb1⟩
    obtain ⟨hc1, hf1, hs1⟩ := keepc hb1
    have hB1 : Below w.heap.size w w1 := Below.trans (by go_grown) (hb1.mono (by simp))
    have hl1 : w.heap.size < w1.heap.size := by simp at hs1; omega
    have z0 : w1.cell? ⟨w.heap.size, 0, none⟩ = some (.int .i64 0) := by rw [hc1 _ _ (by simp)]; simp [go_sem]
    have z1 : w1.cell? ⟨w.heap.size, 1, none⟩ = some (.int .i64 0) := by rw [hc1 _ _ (by simp)]; simp [go_sem]
    clear hb1 HC
    go_wp2_with fail
    exact bodyPost_ret (v := .tuple #[.agg #[.int .i64 x, .int .i64 y], .int .i64 k]) (by simp [results, Try.results30, go_sem, pair_set z0 z1]) rfl ⟨rfl, (hB1.setCell (p := ⟨w.heap.size, 0, none⟩) (Nat.le_refl _) _).setCell (p := ⟨w.heap.size, 1, none⟩) (Nat.le_refl _) _⟩
/-- The short terms of the value of terms with signs, and a code. -/
def tfsL (zs : List (Int × Int)) : List Int := if scfC zs = 0 then expL (vlsT zs).1 (vlsT zs).2.1 else []
def tfsC (zs : List (Int × Int)) : Int := scfC zs
theorem tfsL_len (zs : List (Int × Int)) : (tfsL zs).length ≤ 1000000000 := by
  unfold tfsL
  split
  · exact expL_len _ _
  · simp
theorem tfsL_rng (zs : List (Int × Int)) : ∀ z ∈ tfsL zs, Rng z := by
  unfold tfsL
  split
  · exact expL_rng _ _
  · intro z hz; cases hz
theorem vls_ok {zs : List (Int × Int)} (h : scfC zs = 0) : vfB (vlsT zs).1 (vlsT zs).2.1 = true ∧ (vlsT zs).2.2 = 0 := by
  rw [show vlsT zs = ((lastP (scfL zs)).1, (lastP (scfL zs)).2, 0) from if_pos h]
  exact ⟨(scf_ok h).2.2.2, rfl⟩
theorem vls_bad {zs : List (Int × Int)} (h : scfC zs ≠ 0) : vlsT zs = (0, 0, scfC zs) := if_neg h
set_option maxHeartbeats 800000 in
theorem implTfs_any (A : Option Addr) (n cap : Nat) (zs : List (Int × Int)) (w : World) (h : PRow w A n zs) (hcap : n ≤ cap) :
    Calls Try.prog 9 #[.slice A n cap] w fun e w' => ResI w.heap.size (tfsL zs) (tfsC zs) e w' ∧ Below w.heap.size w w' := by
  have HC := Lib.hid (implVls_any A n cap zs w h hcap)
  by_cases ht : scfC zs = 0
  · obtain ⟨hvf, hk⟩ := vls_ok ht
    rw [show tfsL zs = expL (vlsT zs).1 (vlsT zs).2.1 from if_pos ht, show tfsC zs = 0 from ht]
    rw [hk] at HC
    have HE := Lib.hid (fun w => implExpand_any (vlsT zs).1 (vlsT zs).2.1 w)
    rw [show expC (vlsT zs).1 (vlsT zs).2.1 = 0 from if_pos hvf] at HE
    unfold ResI at HE
    generalize expL (vlsT zs).1 (vlsT zs).2.1 = fs at *
    generalize (vlsT zs).1 = x at *
    generalize (vlsT zs).2.1 = y at *
    clear ht hk hvf h
    go_enter Try.func9, Try.ntmps9
    go_wp2_with fail
    refine HC.out.mono ?_
    rintro e w1 ⟨rfl, hb1⟩
    go_wp2_with fail
    refine (HE.out _).mono ?_
    rintro e w2 ⟨⟨B, c, rfl, ho⟩, hb2⟩
    have HO := Lib.hid ho
    have hB2 : Below w.heap.size w w2 := (hb1.alloc hb1.size _).trans (hb2.mono (by have := hb1.size; simp; omega))
    have hs1 : w.heap.size ≤ w1.heap.size := hb1.size
    clear ho hb2 hb1
    go_wp2_with fail
    go_ret2
    exact ⟨⟨_, _, rfl, own_base HO.out (by simp; omega)⟩, hB2⟩
  · rw [show tfsL zs = [] from if_neg ht, show tfsC zs = scfC zs from rfl]
    rw [vls_bad ht] at HC
    have hne : (scfC zs != 0) = true := by rw [bne_iff_ne]; exact ht
    generalize scfC zs = k at *
    clear ht h
    go_enter Try.func9, Try.ntmps9
    go_wp2_with fail
    refine HC.out.mono ?_
    rintro e w1 ⟨rfl, hb1⟩
    go_wp2_with fail
    go_ret2
    exact ⟨⟨none, 0, rfl, World.ownsRow_nil ..⟩, hb1.alloc hb1.size _⟩
set_option maxHeartbeats 800000 in
theorem specTfs_any (A : Option Addr) (n cap : Nat) (zs : List (Int × Int)) (w : World) (h : PRow w A n zs) (hcap : n ≤ cap) :
    Calls Try.prog 10 #[.slice A n cap] w fun e w' => ResI w.heap.size (tfsL zs) (tfsC zs) e w' ∧ Below w.heap.size w w' := by
  have HC := Lib.hid (specVls_any A n cap zs w h hcap)
  by_cases ht : scfC zs = 0
  · obtain ⟨hvf, hk⟩ := vls_ok ht
    rw [show tfsL zs = expL (vlsT zs).1 (vlsT zs).2.1 from if_pos ht, show tfsC zs = 0 from ht]
    rw [hk] at HC
    obtain ⟨v1, v2, v3, v4, _⟩ := vfB_iff.1 hvf
    rw [show expL (vlsT zs).1 (vlsT zs).2.1 = expN (vlsT zs).1 (vlsT zs).2.1.toNat from if_pos hvf]
    obtain ⟨d, hd⟩ := Int.eq_ofNat_of_zero_le (show 0 ≤ (vlsT zs).2.1 by omega)
    have HE := Lib.hid (fun w => l03Terms_any (vlsT zs).1 d w v3 v4 (by omega))
    rw [← hd] at HE
    rw [hd, Int.toNat_natCast]
    unfold RetI at HE
    generalize expN (vlsT zs).1 d = fs at *
    generalize (vlsT zs).1 = x at *
    generalize (vlsT zs).2.1 = y at *
    clear ht hk hvf h hd
    go_enter Try.func10, Try.ntmps10
    go_wp2_with fail
    refine HC.out.mono ?_
    rintro e w1 ⟨rfl, hb1⟩
    go_wp2_with fail
    refine (HE.out _).mono ?_
    rintro e w2 ⟨⟨B, c, rfl, ho⟩, hb2⟩
    have HO := Lib.hid ho
    have hB2 : Below w.heap.size w w2 := (hb1.alloc hb1.size _).trans (hb2.mono (by have := hb1.size; simp; omega))
    have hs1 : w.heap.size ≤ w1.heap.size := hb1.size
    clear ho hb2 hb1
    go_wp2_with fail
    go_ret2
    exact ⟨⟨_, _, rfl, own_base HO.out (by simp; omega)⟩, hB2⟩
  · rw [show tfsL zs = [] from if_neg ht, show tfsC zs = scfC zs from rfl]
    rw [vls_bad ht] at HC
    have hne : (scfC zs != 0) = true := by rw [bne_iff_ne]; exact ht
    generalize scfC zs = k at *
    clear ht h
    go_enter Try.func10, Try.ntmps10
    go_wp2_with fail
    refine HC.out.mono ?_
    rintro e w1 ⟨rfl, hb1⟩
    go_wp2_with fail
    go_ret2
    exact ⟨⟨none, 0, rfl, World.ownsRow_nil ..⟩, hb1.alloc hb1.size _⟩
/-- The terms with signs of the value of terms, and a code. -/
def sftL (zs : List Int) (kd : Int) : List (Int × Int) := if (valT zs).2.2 = 0 then exsL (valT zs).1 (valT zs).2.1 kd else []
def sftC (zs : List Int) (kd : Int) : Int := if (valT zs).2.2 = 0 then exsC (valT zs).1 (valT zs).2.1 kd else (valT zs).2.2
theorem sftL_len (zs : List Int) (kd : Int) : (sftL zs kd).length ≤ 60 := by
  unfold sftL
  split
  · exact exsL_len _ _ _
  · simp
theorem sftL_rng (zs : List Int) (kd : Int) : ∀ z ∈ sftL zs kd, Rng z.1 ∧ Rng z.2 := by
  unfold sftL
  split
  · exact exsL_rng _ _ _
  · intro z hz; cases hz
set_option maxHeartbeats 800000 in
theorem implSft_any (A : Option Addr) (n cap : Nat) (zs : List Int) (kd : Int) (w : World) (h : IRow w A n zs) (hcap : n ≤ cap) :
    Calls Try.prog 15 #[.slice A n cap, .int .i64 kd] w fun e w' => ResS w.heap.size (sftL zs kd) (sftC zs kd) e w' ∧ Below w.heap.size w w' := by
  have HC := Lib.hid (implVal_any A n cap zs w h hcap)
  by_cases ht : (valT zs).2.2 = 0
  · rw [show sftL zs kd = exsL (valT zs).1 (valT zs).2.1 kd from if_pos ht, show sftC zs kd = exsC (valT zs).1 (valT zs).2.1 kd from if_pos ht]
    rw [ht] at HC
    have HE := Lib.hid (fun w => implExs_any (valT zs).1 (valT zs).2.1 kd w)
    unfold ResS at HE
    generalize exsL (valT zs).1 (valT zs).2.1 kd = fs at *
    generalize exsC (valT zs).1 (valT zs).2.1 kd = k at *
    generalize (valT zs).1 = x at *
    generalize (valT zs).2.1 = y at *
    clear ht h
    go_enter Try.func15, Try.ntmps15
    go_wp2_with fail
    refine HC.out.mono ?_
    rintro e w1 ⟨rfl, hb1⟩
    go_wp2_with fail
    refine (HE.out _).mono ?_
    rintro e w2 ⟨⟨B, c, rfl, ho⟩, hb2⟩
    have HO := Lib.hid ho
    have hB2 : Below w.heap.size w w2 := (hb1.alloc hb1.size _).trans (hb2.mono (by have := hb1.size; simp; omega))
    have hs1 : w.heap.size ≤ w1.heap.size := hb1.size
    clear ho hb2 hb1
    go_wp2_with fail
    go_ret2
    exact ⟨⟨_, _, rfl, own_base HO.out (by simp; omega)⟩, hB2⟩
  · rw [show sftL zs kd = [] from if_neg ht, show sftC zs kd = (valT zs).2.2 from if_neg ht]
    have hne : ((valT zs).2.2 != 0) = true := by rw [bne_iff_ne]; exact ht
    generalize (valT zs).2.2 = k at *
    generalize (valT zs).1 = x at *
    generalize (valT zs).2.1 = y at *
    clear ht h
    go_enter Try.func15, Try.ntmps15
    go_wp2_with fail
    refine HC.out.mono ?_
    rintro e w1 ⟨rfl, hb1⟩
    go_wp2_with fail
    go_ret2
    exact ⟨⟨none, 0, rfl, World.ownsRow_nil ..⟩, hb1.alloc hb1.size _⟩
set_option maxHeartbeats 800000 in
theorem specSft_any (A : Option Addr) (n cap : Nat) (zs : List Int) (kd : Int) (w : World) (h : IRow w A n zs) (hcap : n ≤ cap) :
    Calls Try.prog 16 #[.slice A n cap, .int .i64 kd] w fun e w' => ResS w.heap.size (sftL zs kd) (sftC zs kd) e w' ∧ Below w.heap.size w w' := by
  have HC := Lib.hid (specVal_any A n cap zs w h hcap)
  by_cases ht : (valT zs).2.2 = 0
  · rw [show sftL zs kd = exsL (valT zs).1 (valT zs).2.1 kd from if_pos ht, show sftC zs kd = exsC (valT zs).1 (valT zs).2.1 kd from if_pos ht]
    rw [ht] at HC
    have HE := Lib.hid (fun w => specExs_any (valT zs).1 (valT zs).2.1 kd w)
    unfold ResS at HE
    generalize exsL (valT zs).1 (valT zs).2.1 kd = fs at *
    generalize exsC (valT zs).1 (valT zs).2.1 kd = k at *
    generalize (valT zs).1 = x at *
    generalize (valT zs).2.1 = y at *
    clear ht h
    go_enter Try.func16, Try.ntmps16
    go_wp2_with fail
    refine HC.out.mono ?_
    rintro e w1 ⟨rfl, hb1⟩
    go_wp2_with fail
    refine (HE.out _).mono ?_
    rintro e w2 ⟨⟨B, c, rfl, ho⟩, hb2⟩
    have HO := Lib.hid ho
    have hB2 : Below w.heap.size w w2 := (hb1.alloc hb1.size _).trans (hb2.mono (by have := hb1.size; simp; omega))
    have hs1 : w.heap.size ≤ w1.heap.size := hb1.size
    clear ho hb2 hb1
    go_wp2_with fail
    go_ret2
    exact ⟨⟨_, _, rfl, own_base HO.out (by simp; omega)⟩, hB2⟩
  · rw [show sftL zs kd = [] from if_neg ht, show sftC zs kd = (valT zs).2.2 from if_neg ht]
    have hne : ((valT zs).2.2 != 0) = true := by rw [bne_iff_ne]; exact ht
    generalize (valT zs).2.2 = k at *
    generalize (valT zs).1 = x at *
    generalize (valT zs).2.1 = y at *
    clear ht h
    go_enter Try.func16, Try.ntmps16
    go_wp2_with fail
    refine HC.out.mono ?_
    rintro e w1 ⟨rfl, hb1⟩
    go_wp2_with fail
    go_ret2
    exact ⟨⟨none, 0, rfl, World.ownsRow_nil ..⟩, hb1.alloc hb1.size _⟩
end Go.Proofs.Ytlpglibnjmjjkaa
