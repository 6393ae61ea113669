/-
  The value of terms with signs, and what is made of it: contracts of the exported functions; the walks of the laws FnExactValueOfSigned, FnExactTermsFromSigned and FnExactSignedFromTerms.
  No condition but those of the laws' own texts.
-/
import Derived.Test.YtjkonkoiofhefaaProg
import Derived.Test.YtjkonkoiofhefaaMem
import Derived.Test.YtjkonkoiofhefaaBasic
import Derived.Test.YtjkonkoiofhefaaAllk
import Derived.Test.YtjkonkoiofhefaaInts
import Derived.Test.YtjkonkoiofhefaaSig
import Derived.Test.YtjkonkoiofhefaaFrac
import Derived.Test.YtjkonkoiofhefaaFrac2
import Derived.Test.YtjkonkoiofhefaaFrac3
import Derived.Test.YtjkonkoiofhefaaSgn
import Derived.Test.YtjkonkoiofhefaaMarks
import Derived.Test.YtjkonkoiofhefaaOwn
import Derived.Test.YtjkonkoiofhefaaExp
import Derived.Test.YtjkonkoiofhefaaTerms
import Derived.Test.YtjkonkoiofhefaaCvg
import Derived.Test.YtjkonkoiofhefaaCvgL
import Derived.Test.YtjkonkoiofhefaaVal
import Derived.Test.YtjkonkoiofhefaaKnd
import Derived.Test.YtjkonkoiofhefaaSct
import Derived.Handy
import Derived.BigQuiet
import Derived.Deep.QuietTactic
namespace Go.Proofs.Ytjkonkoiofhefaa
open Go.RowKit
set_option linter.unusedVariables false
set_option linter.unusedSimpArgs false
attribute [local go_sem ↓] Go.wp_at_zero Go.wp_at_succ

/-- The value of terms with signs, and a code. -/
def vlsT (zs : List (Int × Int)) : Int × Int × Int := if scfC zs = 0 then ((lastP (scfL zs)).1, (lastP (scfL zs)).2, 0) else (0, 0, scfC zs)
theorem scf_ok {zs : List (Int × Int)} (h : scfC zs = 0) : sgnB zs = true ∧ (scfL zs).length = zs.length ∧ 1 ≤ zs.length ∧ vfB (lastP (scfL zs)).1 (lastP (scfL zs)).2 = true := by
  unfold scfC at h
  split at h
  · rename_i hs
    obtain ⟨h1, h2, h3⟩ := scvR_len zs 1 0 0 1
    have hl : (scfL zs).length = zs.length := by rw [show scfL zs = (scvR zs 1 0 0 1).1 from if_pos hs]; exact h1 h
    have hn := (sgn_in hs).1
    refine ⟨hs, hl, hn, ?_⟩
    have hz := lastP_at hl hn
    have hm := List.mem_of_getElem? hz
    rw [show scfL zs = (scvR zs 1 0 0 1).1 from if_pos hs] at hm ⊢
    exact h3 _ hm
  · cases h
set_option maxHeartbeats 800000 in
theorem implVls_any (A : Option Addr) (n cap : Nat) (zs : List (Int × Int)) (w : World) (h : PRow w A n zs) (hcap : n ≤ cap) :
    Calls Try.prog 15 #[.slice A n cap] w fun e w' => e = .returned (.tuple #[.agg #[.int .i64 (vlsT zs).1, .int .i64 (vlsT zs).2.1], .int .i64 (vlsT zs).2.2]) ∧ Below w.heap.size w w' := by
  have HC := Lib.hid (implScf_any A n cap zs _ (h.alloc (.cells #[.int .i64 0, .int .i64 0] 25)) hcap)
  unfold ResF at HC
  by_cases ht : scfC zs = 0
  · obtain ⟨hs, hl, hn1, hvf⟩ := scf_ok ht
    rw [show vlsT zs = ((lastP (scfL zs)).1, (lastP (scfL zs)).2, 0) from if_pos ht]
    have hlen := h.len
    have hbd := h.bd
    rw [hlen] at hl hn1
    have hz := lastP_at hl hn1
    rw [ht, hl] at HC
    generalize scfL zs = fs at *
    generalize lastP fs = X at *
    obtain ⟨x, y⟩ := X
    have HZ := Lib.hid hz
    clear hl hz hs ht hvf hlen h
    go_enter Try.func15, Try.ntmps15
    go_wp2_with fail
    refine HC.out.mono ?_
    rintro e w1 ⟨⟨B, c, rfl, ho⟩, hb1⟩
    obtain ⟨g, rfl, hg1, hg2⟩ := own_some ho (by omega)
    obtain ⟨k0, k1⟩ := own_cellP ho HZ.out
    simp only at k0 k1
    obtain ⟨hc1, hf1, hs1⟩ := keepc hb1
    have hB1 : Below w.heap.size w w1 := Below.trans (by go_grown) (hb1.mono (by simp))
    have hl1 : w.heap.size < w1.heap.size := by simp at hs1; omega
    have z0 : w1.cell? ⟨w.heap.size, 0, none⟩ = some (.int .i64 0) := by rw [hc1 _ _ (by simp)]; simp [go_sem]
    have z1 : w1.cell? ⟨w.heap.size, 1, none⟩ = some (.int .i64 0) := by rw [hc1 _ _ (by simp)]; simp [go_sem]
    clear ho hb1 HC
    go_wp2_with fail
    exact bodyPost_ret (v := .tuple #[.agg #[.int .i64 x, .int .i64 y], .int .i64 0]) (by simp [results, Try.results15, go_sem, pair_set z0 z1]) rfl ⟨rfl, (hB1.setCell (p := ⟨w.heap.size, 0, none⟩) (Nat.le_refl _) _).setCell (p := ⟨w.heap.size, 1, none⟩) (Nat.le_refl _) _⟩
  · rw [show vlsT zs = (0, 0, scfC zs) from if_neg ht]
    have hne : (scfC zs != 0) = true := by rw [bne_iff_ne]; exact ht
    generalize scfC zs = k at *
    generalize scfL zs = fs at *
    clear ht
    go_enter Try.func15, Try.ntmps15
    go_wp2_with fail
    refine HC.out.mono ?_
    rintro e w1 ⟨⟨B, c, rfl, ho⟩, hb1⟩
    obtain ⟨hc1, hf1, hs1⟩ := keepc hb1
    have hB1 : Below w.heap.size w w1 := Below.trans (by go_grown) (hb1.mono (by simp))
    have hl1 : w.heap.size < w1.heap.size := by simp at hs1; omega
    have z0 : w1.cell? ⟨w.heap.size, 0, none⟩ = some (.int .i64 0) := by rw [hc1 _ _ (by simp)]; simp [go_sem]
    have z1 : w1.cell? ⟨w.heap.size, 1, none⟩ = some (.int .i64 0) := by rw [hc1 _ _ (by simp)]; simp [go_sem]
    clear ho hb1 HC
    go_wp2_with fail
    exact bodyPost_ret (v := .tuple #[.agg #[.int .i64 0, .int .i64 0], .int .i64 k]) (by simp [results, Try.results15, go_sem, pair_set z0 z1]) rfl ⟨rfl, (hB1.setCell (p := ⟨w.heap.size, 0, none⟩) (Nat.le_refl _) _).setCell (p := ⟨w.heap.size, 1, none⟩) (Nat.le_refl _) _⟩
set_option maxHeartbeats 800000 in
theorem l04Value_any (A : Option Addr) (n cap : Nat) (zs : List (Int × Int)) (w : World) (h : PRow w A n zs) (hs : sgnB zs = true) :
    Calls Try.prog 49 #[.slice A n cap] w fun e w' => e = .returned (.tuple #[.agg #[.int .i64 (vlsT zs).1, .int .i64 (vlsT zs).2.1], .int .i64 (vlsT zs).2.2]) ∧ Below w.heap.size w w' := by
  have HC := Lib.hid (l04Convergents_any A n cap zs _ (h.alloc (.cells #[.int .i64 0, .int .i64 0] 25)) hs)
  rw [show (scvR zs 1 0 0 1).1 = scfL zs from (if_pos hs).symm, show (scvR zs 1 0 0 1).2 = scfC zs from (if_pos hs).symm] at HC
  unfold ResF at HC
  by_cases ht : scfC zs = 0
  · obtain ⟨_, hl, hn1, hvf⟩ := scf_ok ht
    rw [show vlsT zs = ((lastP (scfL zs)).1, (lastP (scfL zs)).2, 0) from if_pos ht]
    have hlen := h.len
    have hbd := h.bd
    rw [hlen] at hl hn1
    have hz := lastP_at hl hn1
    rw [ht, hl] at HC
    generalize scfL zs = fs at *
    generalize lastP fs = X at *
    obtain ⟨x, y⟩ := X
    have HZ := Lib.hid hz
    clear hl hz hs ht hvf hlen h
    go_enter Try.func49, Try.ntmps49
    go_wp2_with fail
    refine HC.out.mono ?_
    rintro e w1 ⟨⟨B, c, rfl, ho⟩, hb1⟩
    obtain ⟨g, rfl, hg1, hg2⟩ := own_some ho (by omega)
    obtain ⟨k0, k1⟩ := own_cellP ho HZ.out
    simp only at k0 k1
    obtain ⟨hc1, hf1, hs1⟩ := keepc hb1
    have hB1 : Below w.heap.size w w1 := Below.trans (by go_grown) (hb1.mono (by simp))
    have hl1 : w.heap.size < w1.heap.size := by simp at hs1; omega
    have z0 : w1.cell? ⟨w.heap.size, 0, none⟩ = some (.int .i64 0) := by rw [hc1 _ _ (by simp)]; simp [go_sem]
    have z1 : w1.cell? ⟨w.heap.size, 1, none⟩ = some (.int .i64 0) := by rw [hc1 _ _ (by simp)]; simp [go_sem]
    clear ho hb1 HC
    go_wp2_with fail
    exact bodyPost_ret (v := .tuple #[.agg #[.int .i64 x, .int .i64 y], .int .i64 0]) (by simp [results, Try.results49, go_sem, pair_set z0 z1]) rfl ⟨rfl, (hB1.setCell (p := ⟨w.heap.size, 0, none⟩) (Nat.le_refl _) _).setCell (p := ⟨w.heap.size, 1, none⟩) (Nat.le_refl _) _⟩
  · rw [show vlsT zs = (0, 0, scfC zs) from if_neg ht]
    have hne : (scfC zs != 0) = true := by rw [bne_iff_ne]; exact ht
    generalize scfC zs = k at *
    generalize scfL zs = fs at *
    clear ht hs
    go_enter Try.func49, Try.ntmps49
    go_wp2_with fail
    refine HC.out.mono ?_
    rintro e w1 ⟨⟨B, c, rfl, ho⟩, hb1⟩
    obtain ⟨hc1, hf1, hs1⟩ := keepc hb1
    have hB1 : Below w.heap.size w w1 := Below.trans (by go_grown) (hb1.mono (by simp))
    have hl1 : w.heap.size < w1.heap.size := by simp at hs1; omega
    have z0 : w1.cell? ⟨w.heap.size, 0, none⟩ = some (.int .i64 0) := by rw [hc1 _ _ (by simp)]; simp [go_sem]
    have z1 : w1.cell? ⟨w.heap.size, 1, none⟩ = some (.int .i64 0) := by rw [hc1 _ _ (by simp)]; simp [go_sem]
    clear ho hb1 HC
    go_wp2_with fail
    exact bodyPost_ret (v := .tuple #[.agg #[.int .i64 0, .int .i64 0], .int .i64 k]) (by simp [results, Try.results49, go_sem, pair_set z0 z1]) rfl ⟨rfl, (hB1.setCell (p := ⟨w.heap.size, 0, none⟩) (Nat.le_refl _) _).setCell (p := ⟨w.heap.size, 1, none⟩) (Nat.le_refl _) _⟩
set_option maxHeartbeats 800000 in
theorem specVls_any (A : Option Addr) (n cap : Nat) (zs : List (Int × Int)) (w : World) (h : PRow w A n zs) (hcap : n ≤ cap) :
    Calls Try.prog 13 #[.slice A n cap] w fun e w' => e = .returned (.tuple #[.agg #[.int .i64 (vlsT zs).1, .int .i64 (vlsT zs).2.1], .int .i64 (vlsT zs).2.2]) ∧ Below w.heap.size w w' := by
  have HV := Lib.hid (l04Ok_any A n cap zs _ (h.alloc (.cells #[.int .i64 0, .int .i64 0] 25)))
  cases hv : sgnB zs
  · rw [show vlsT zs = (0, 0, 1) from by unfold vlsT; rw [show scfC zs = 1 from if_neg (by simp [hv])]; rfl]
    rw [hv] at HV
    go_enter Try.func13, Try.ntmps13
    go_wp2_with fail
    refine HV.out.mono ?_
    rintro e w' ⟨rfl, rfl⟩
    go_wp2_with fail
    go_returns
    exact ⟨rfl, by go_grown⟩
  · have HC := Lib.hid (l04Value_any A n cap zs _ (h.alloc (.cells #[.int .i64 0, .int .i64 0] 25)) hv)
    rw [hv] at HV
    generalize vlsT zs = X at *
    obtain ⟨x, y, k⟩ := X
    clear hv h
    go_enter Try.func13, Try.ntmps13
    go_wp2_with fail
    refine HV.out.mono ?_
    rintro e w' ⟨rfl, rfl⟩
    go_wp2_with fail
    refine HC.out.mono ?_
    rintro e w1 ⟨rfl, hb1⟩
    obtain ⟨hc1, hf1, hs1⟩ := keepc hb1
    have hB1 : Below w.heap.size w w1 := Below.trans (by go_grown) (hb1.mono (by simp))
    have hl1 : w.heap.size < w1.heap.size := by simp at hs1; omega
    have z0 : w1.cell? ⟨w.heap.size, 0, none⟩ = some (.int .i64 0) := by rw [hc1 _ _ (by simp)]; simp [go_sem]
    have z1 : w1.cell? ⟨w.heap.size, 1, none⟩ = some (.int .i64 0) := by rw [hc1 _ _ (by simp)]; simp [go_sem]
    clear hb1 HC
    go_wp2_with fail
    exact bodyPost_ret (v := .tuple #[.agg #[.int .i64 x, .int .i64 y], .int .i64 k]) (by simp [results, Try.results13, go_sem, pair_set z0 z1]) rfl ⟨rfl, (hB1.setCell (p := ⟨w.heap.size, 0, none⟩) (Nat.le_refl _) _).setCell (p := ⟨w.heap.size, 1, none⟩) (Nat.le_refl _) _⟩
set_option maxHeartbeats 1600000 in
theorem fnExactValueOfSigned_walk (w : World) (A : Option Addr) (n cap : Nat) (zs : List (Int × Int)) (h : PRow w A n zs) :
    Calls Try.prog 3 #[.slice A n cap] w fun e w' => e = .returned (.bool true) ∧ Below w.heap.size w w' := by
  have hbd := h.bd
  by_cases hn : (1048576 : Int) < n
  · go_enter Try.func3, Try.ntmps3
    go_wp2_with fail
    refine (sz_over A n cap 1048576 _ hbd (by omega) (by omega) hn).mono ?_
    rintro e w' ⟨rfl, rfl⟩
    go_wp2_with fail
    go_ret
    exact ⟨rfl, Below.refl _ _⟩
  · have Hr := Lib.hid h.2.2.1
    have hn0 : n ≤ 1048576 := by omega
    have Hh := Lib.hid h
    obtain ⟨x, y, k, HS, HI⟩ : ∃ x y k : Int, Hid (∀ (A : Option Addr) (cap : Nat) (w : World), PRow w A n zs → n ≤ cap → Calls Try.prog 13 #[.slice A n cap] w fun e w' => e = .returned (.tuple #[.agg #[.int .i64 x, .int .i64 y], .int .i64 k]) ∧ Below w.heap.size w w') ∧ Hid (∀ (A : Option Addr) (cap : Nat) (w : World), PRow w A n zs → n ≤ cap → Calls Try.prog 15 #[.slice A n cap] w fun e w' => e = .returned (.tuple #[.agg #[.int .i64 x, .int .i64 y], .int .i64 k]) ∧ Below w.heap.size w w') :=
      ⟨(vlsT zs).1, (vlsT zs).2.1, (vlsT zs).2.2, fun A cap w h hc => specVls_any A n cap zs w h hc, fun A cap w h hc => implVls_any A n cap zs w h hc⟩
    clear h
    go_enter Try.func3, Try.ntmps3
    go_wp2_with fail
    refine (sz_fits A n cap 1048576 _ hbd (by omega) (by omega) (by omega)).mono ?_
    rintro e w' ⟨rfl, rfl⟩
    go_wp2_with fail
    refine (toSignedTermS_any A n cap zs _ Hh.out (by omega)).mono ?_
    rintro e w1 ⟨A1, c1, rfl, o1, hb1⟩
    have O1 := Lib.hid o1
    clear o1
    go_wp2_with fail
    refine (HS.out A1 c1 _ (PRow.of_own O1.out (by omega) Hr.out) (own_cap O1.out)).mono ?_
    rintro e w2 ⟨rfl, hd2⟩
    have hb2 : Below w.heap.size w w2 := hb1.trans (hd2.mono hb1.size)
    clear hd2 hb1
    go_wp2_with fail
    refine (toSignedTermS_any A n cap zs _ ((Hh.out.below hb2).alloc _) (by omega)).mono ?_
    rintro e w3 ⟨A2, c2, rfl, oX, hd3⟩
    have hb3 : Below w.heap.size w w3 := (hb2.alloc hb2.size _).trans (hd3.mono (by have := hb2.size; simp; omega))
    have u0 : w3.cell? ⟨w2.heap.size, 0, none⟩ = some (.int .i64 x) := (hd3.cell (p := ⟨w2.heap.size, 0, none⟩) (by simp)).trans (newcellA rfl rfl)
    have u1 : w3.cell? ⟨w2.heap.size, 1, none⟩ = some (.int .i64 y) := (hd3.cell (p := ⟨w2.heap.size, 1, none⟩) (by simp)).trans (newcellA rfl rfl)
    have hl3 : w2.heap.size < w3.heap.size := by have := hd3.size; simp at this; omega
    have X3 := Lib.hid oX
    clear oX hd3 hb2
    go_wp2_with fail
    refine (HI.out A2 c2 _ (PRow.of_own X3.out (by omega) Hr.out) (own_cap X3.out)).mono ?_
    rintro e w4 ⟨rfl, hd4⟩
    have hb4 : Below w.heap.size w w4 := hb3.trans (hd4.mono hb3.size)
    replace u0 := (hd4.cell (p := ⟨w2.heap.size, 0, none⟩) hl3).trans u0
    replace u1 := (hd4.cell (p := ⟨w2.heap.size, 1, none⟩) hl3).trans u1
    have hl4 : w2.heap.size < w4.heap.size := Nat.lt_of_lt_of_le hl3 hd4.size
    have X4 := Lib.hid (own_below X3.out hd4)
    clear hd4 hb3
    go_wp2_with fail
    refine (eqFraction_same x y _).mono ?_
    rintro e w5 ⟨rfl, hd5⟩
    have hb5 : Below w.heap.size w w5 := (hb4.alloc hb4.size _).trans (hd5.mono (by have := hb4.size; simp; omega))
    have X5 := Lib.hid (own_below (X4.out.alloc _) hd5)
    clear hd5 hb4
    go_wp2_with fail
    refine (toSignedTermS_any A n cap zs _ (Hh.out.below hb5) (by omega)).mono ?_
    rintro e w6 ⟨A4, c4, rfl, oY, hd6⟩
    have hb6 : Below w.heap.size w w6 := hb5.trans (hd6.mono hb5.size)
    have X6 := Lib.hid (own_below X5.out hd6)
    have Y6 := Lib.hid oY
    clear oY hd6 hb5
    go_wp2_with fail
    refine (eqSignedTermS_same A2 n c2 A4 c4 zs _ (PRow.of_own X6.out (by omega) Hr.out) (PRow.of_own Y6.out (by omega) Hr.out)).mono ?_
    rintro e w7 ⟨rfl, hd7⟩
    go_wp2_with fail
    go_ret
    exact ⟨rfl, hb6.trans (hd7.mono hb6.size)⟩
/-- The short terms of the value of terms with signs, and a code. -/
def tfsL (zs : List (Int × Int)) : List Int := if scfC zs = 0 then expL (vlsT zs).1 (vlsT zs).2.1 else []
def tfsC (zs : List (Int × Int)) : Int := scfC zs
theorem tfsL_len (zs : List (Int × Int)) : (tfsL zs).length ≤ 1000000000 := by
  unfold tfsL
  split
  · exact expL_len _ _
  · simp
theorem tfsL_rng (zs : List (Int × Int)) : ∀ z ∈ tfsL zs, Rng z := by
  unfold tfsL
  split
  · exact expL_rng _ _
  · intro z hz; cases hz
theorem vls_ok {zs : List (Int × Int)} (h : scfC zs = 0) : vfB (vlsT zs).1 (vlsT zs).2.1 = true ∧ (vlsT zs).2.2 = 0 := by
  rw [show vlsT zs = ((lastP (scfL zs)).1, (lastP (scfL zs)).2, 0) from if_pos h]
  exact ⟨(scf_ok h).2.2.2, rfl⟩
theorem vls_bad {zs : List (Int × Int)} (h : scfC zs ≠ 0) : vlsT zs = (0, 0, scfC zs) := if_neg h
set_option maxHeartbeats 800000 in
theorem implTfs_any (A : Option Addr) (n cap : Nat) (zs : List (Int × Int)) (w : World) (h : PRow w A n zs) (hcap : n ≤ cap) :
    Calls Try.prog 42 #[.slice A n cap] w fun e w' => ResI w.heap.size (tfsL zs) (tfsC zs) e w' ∧ Below w.heap.size w w' := by
  have HC := Lib.hid (implVls_any A n cap zs w h hcap)
  by_cases ht : scfC zs = 0
  · obtain ⟨hvf, hk⟩ := vls_ok ht
    rw [show tfsL zs = expL (vlsT zs).1 (vlsT zs).2.1 from if_pos ht, show tfsC zs = 0 from ht]
    rw [hk] at HC
    have HE := Lib.hid (fun w => implExpand_any (vlsT zs).1 (vlsT zs).2.1 w)
    rw [show expC (vlsT zs).1 (vlsT zs).2.1 = 0 from if_pos hvf] at HE
    unfold ResI at HE
    generalize expL (vlsT zs).1 (vlsT zs).2.1 = fs at *
    generalize (vlsT zs).1 = x at *
    generalize (vlsT zs).2.1 = y at *
    clear ht hk hvf h
    go_enter Try.func42, Try.ntmps42
    go_wp2_with fail
    refine HC.out.mono ?_
    rintro e w1 ⟨rfl, hb1⟩
    go_wp2_with fail
    refine (HE.out _).mono ?_
    rintro e w2 ⟨⟨B, c, rfl, ho⟩, hb2⟩
    have HO := Lib.hid ho
    have hB2 : Below w.heap.size w w2 := (hb1.alloc hb1.size _).trans (hb2.mono (by have := hb1.size; simp; omega))
    have hs1 : w.heap.size ≤ w1.heap.size := hb1.size
    clear ho hb2 hb1
    go_wp2_with fail
    go_ret2
    exact ⟨⟨_, _, rfl, own_base HO.out (by simp; omega)⟩, hB2⟩
  · rw [show tfsL zs = [] from if_neg ht, show tfsC zs = scfC zs from rfl]
    rw [vls_bad ht] at HC
    have hne : (scfC zs != 0) = true := by rw [bne_iff_ne]; exact ht
    generalize scfC zs = k at *
    clear ht h
    go_enter Try.func42, Try.ntmps42
    go_wp2_with fail
    refine HC.out.mono ?_
    rintro e w1 ⟨rfl, hb1⟩
    go_wp2_with fail
    go_ret2
    exact ⟨⟨none, 0, rfl, World.ownsRow_nil ..⟩, hb1.alloc hb1.size _⟩
set_option maxHeartbeats 800000 in
theorem specTfs_any (A : Option Addr) (n cap : Nat) (zs : List (Int × Int)) (w : World) (h : PRow w A n zs) (hcap : n ≤ cap) :
    Calls Try.prog 41 #[.slice A n cap] w fun e w' => ResI w.heap.size (tfsL zs) (tfsC zs) e w' ∧ Below w.heap.size w w' := by
  have HC := Lib.hid (specVls_any A n cap zs w h hcap)
  by_cases ht : scfC zs = 0
  · obtain ⟨hvf, hk⟩ := vls_ok ht
    rw [show tfsL zs = expL (vlsT zs).1 (vlsT zs).2.1 from if_pos ht, show tfsC zs = 0 from ht]
    rw [hk] at HC
    obtain ⟨v1, v2, v3, v4, _⟩ := vfB_iff.1 hvf
    rw [show expL (vlsT zs).1 (vlsT zs).2.1 = expN (vlsT zs).1 (vlsT zs).2.1.toNat from if_pos hvf]
    obtain ⟨d, hd⟩ := Int.eq_ofNat_of_zero_le (show 0 ≤ (vlsT zs).2.1 by omega)
    have HE := Lib.hid (fun w => l03Terms_any (vlsT zs).1 d w v3 v4 (by omega))
    rw [← hd] at HE
    rw [hd, Int.toNat_natCast]
    unfold RetI at HE
    generalize expN (vlsT zs).1 d = fs at *
    generalize (vlsT zs).1 = x at *
    generalize (vlsT zs).2.1 = y at *
    clear ht hk hvf h hd
    go_enter Try.func41, Try.ntmps41
    go_wp2_with fail
    refine HC.out.mono ?_
    rintro e w1 ⟨rfl, hb1⟩
    go_wp2_with fail
    refine (HE.out _).mono ?_
    rintro e w2 ⟨⟨B, c, rfl, ho⟩, hb2⟩
    have HO := Lib.hid ho
    have hB2 : Below w.heap.size w w2 := (hb1.alloc hb1.size _).trans (hb2.mono (by have := hb1.size; simp; omega))
    have hs1 : w.heap.size ≤ w1.heap.size := hb1.size
    clear ho hb2 hb1
    go_wp2_with fail
    go_ret2
    exact ⟨⟨_, _, rfl, own_base HO.out (by simp; omega)⟩, hB2⟩
  · rw [show tfsL zs = [] from if_neg ht, show tfsC zs = scfC zs from rfl]
    rw [vls_bad ht] at HC
    have hne : (scfC zs != 0) = true := by rw [bne_iff_ne]; exact ht
    generalize scfC zs = k at *
    clear ht h
    go_enter Try.func41, Try.ntmps41
    go_wp2_with fail
    refine HC.out.mono ?_
    rintro e w1 ⟨rfl, hb1⟩
    go_wp2_with fail
    go_ret2
    exact ⟨⟨none, 0, rfl, World.ownsRow_nil ..⟩, hb1.alloc hb1.size _⟩
set_option maxHeartbeats 3200000 in
theorem fnExactTermsFromSigned_walk (w : World) (A : Option Addr) (n cap : Nat) (zs : List (Int × Int)) (h : PRow w A n zs) :
    Calls Try.prog 9 #[.slice A n cap] w fun e w' => e = .returned (.bool true) ∧ Below w.heap.size w w' := by
  have hbd := h.bd
  by_cases hn : (1048576 : Int) < n
  · go_enter Try.func9, Try.ntmps9
    go_wp2_with fail
    refine (sz_over A n cap 1048576 _ hbd (by omega) (by omega) hn).mono ?_
    rintro e w' ⟨rfl, rfl⟩
    go_wp2_with fail
    go_ret
    exact ⟨rfl, Below.refl _ _⟩
  · have Hr := Lib.hid h.2.2.1
    have hn0 : n ≤ 1048576 := by omega
    have Hh := Lib.hid h
    obtain ⟨N, zs0, k, hN, hrg, HS, HI⟩ : ∃ (N : Nat) (zs0 : List Int) (k : Int), N ≤ 1000000000 ∧ (∀ z ∈ zs0, Rng z) ∧ Hid (∀ (A : Option Addr) (cap : Nat) (w : World), PRow w A n zs → n ≤ cap → Calls Try.prog 41 #[.slice A n cap] w fun e w' => (∃ B c, e = .returned (.tuple #[.slice B N c, .int .i64 k]) ∧ w'.ownsRow w.heap.size 2 1 (.slice B N c) N (zs0.map (Value.int .i64))) ∧ Below w.heap.size w w') ∧ Hid (∀ (A : Option Addr) (cap : Nat) (w : World), PRow w A n zs → n ≤ cap → Calls Try.prog 42 #[.slice A n cap] w fun e w' => (∃ B c, e = .returned (.tuple #[.slice B N c, .int .i64 k]) ∧ w'.ownsRow w.heap.size 2 1 (.slice B N c) N (zs0.map (Value.int .i64))) ∧ Below w.heap.size w w') :=
      ⟨(tfsL zs).length, tfsL zs, tfsC zs, (tfsL_len zs), (tfsL_rng zs), fun A cap w h hc => specTfs_any A n cap zs w h hc, fun A cap w h hc => implTfs_any A n cap zs w h hc⟩
    have HR := Lib.hid hrg
    clear hrg h
    go_enter Try.func9, Try.ntmps9
    go_wp2_with fail
    refine (sz_fits A n cap 1048576 _ hbd (by omega) (by omega) (by omega)).mono ?_
    rintro e w' ⟨rfl, rfl⟩
    go_wp2_with fail
    refine (toSignedTermS_any A n cap zs _ Hh.out (by omega)).mono ?_
    rintro e w1 ⟨A1, c1, rfl, oXA, hd1⟩
    have hb1 : Below w.heap.size w w1 := hd1
    have hs1 : w.heap.size ≤ w1.heap.size := hd1.size
    clear hd1
    have XA_1 := Lib.hid oXA
    have XA_b := Lib.hid oXA
    clear oXA
    go_wp2_with fail
    refine (HS.out A1 c1 _ (PRow.of_own XA_1.out (by omega) Hr.out) (own_cap XA_1.out)).mono ?_
    rintro e w2 ⟨⟨A0, c0, rfl, oW⟩, hd2⟩
    have hb2 : Below w.heap.size w w2 := hb1.trans (hd2.mono hb1.size)
    have hs2 : w1.heap.size ≤ w2.heap.size := hd2.size
    have XA_2 := Lib.hid (own_below XA_1.out hd2)
    clear hd2 hb1
    have W_2 := Lib.hid oW
    have W_b := Lib.hid oW
    clear oW
    go_wp2_with fail
    refine (toSignedTermS_any A n cap zs _ (Hh.out.below hb2) (by omega)).mono ?_
    rintro e w3 ⟨A2, c2, rfl, oX, hd3⟩
    have hb3 : Below w.heap.size w w3 := hb2.trans (hd3.mono hb2.size)
    have hs3 : w2.heap.size ≤ w3.heap.size := hd3.size
    have XA_3 := Lib.hid (own_below XA_2.out hd3)
    have W_3 := Lib.hid (own_below W_2.out hd3)
    clear hd3 hb2
    have X_3 := Lib.hid oX
    have X_b := Lib.hid oX
    clear oX
    go_wp2_with fail
    refine (HI.out A2 c2 _ (PRow.of_own X_3.out (by omega) Hr.out) (own_cap X_3.out)).mono ?_
    rintro e w4 ⟨⟨A3, c3, rfl, oG⟩, hd4⟩
    have hb4 : Below w.heap.size w w4 := hb3.trans (hd4.mono hb3.size)
    have hs4 : w3.heap.size ≤ w4.heap.size := hd4.size
    have XA_4 := Lib.hid (own_below XA_3.out hd4)
    have W_4 := Lib.hid (own_below W_3.out hd4)
    have X_4 := Lib.hid (own_below X_3.out hd4)
    clear hd4 hb3
    have G_4 := Lib.hid oG
    have G_b := Lib.hid oG
    clear oG
    go_wp2_with fail
    refine (eqInt64S_same A3 N c3 A0 c0 zs0 _ (IRow.of_own G_4.out (by omega) HR.out) (IRow.of_own W_4.out (by omega) HR.out)).mono ?_
    rintro e w5 ⟨rfl, hd5⟩
    have hb5 : Below w.heap.size w w5 := hb4.trans (hd5.mono hb4.size)
    have hs5 : w4.heap.size ≤ w5.heap.size := hd5.size
    have XA_5 := Lib.hid (own_below XA_4.out hd5)
    have W_5 := Lib.hid (own_below W_4.out hd5)
    have X_5 := Lib.hid (own_below X_4.out hd5)
    have G_5 := Lib.hid (own_below G_4.out hd5)
    clear hd5 hb4
    go_wp2_with fail
    refine (toSignedTermS_any A n cap zs _ (Hh.out.below hb5) (by omega)).mono ?_
    rintro e w6 ⟨A4, c4, rfl, oY, hd6⟩
    have hb6 : Below w.heap.size w w6 := hb5.trans (hd6.mono hb5.size)
    have hs6 : w5.heap.size ≤ w6.heap.size := hd6.size
    have XA_6 := Lib.hid (own_below XA_5.out hd6)
    have W_6 := Lib.hid (own_below W_5.out hd6)
    have X_6 := Lib.hid (own_below X_5.out hd6)
    have G_6 := Lib.hid (own_below G_5.out hd6)
    clear hd6 hb5
    have Y_6 := Lib.hid oY
    have Y_b := Lib.hid oY
    clear oY
    go_wp2_with fail
    refine (eqSignedTermS_same A2 n c2 A4 c4 zs _ (PRow.of_own X_6.out (by omega) Hr.out) (PRow.of_own Y_6.out (by omega) Hr.out)).mono ?_
    rintro e w7 ⟨rfl, hd7⟩
    have hb7 : Below w.heap.size w w7 := hb6.trans (hd7.mono hb6.size)
    have hs7 : w6.heap.size ≤ w7.heap.size := hd7.size
    have XA_7 := Lib.hid (own_below XA_6.out hd7)
    have W_7 := Lib.hid (own_below W_6.out hd7)
    have X_7 := Lib.hid (own_below X_6.out hd7)
    have G_7 := Lib.hid (own_below G_6.out hd7)
    have Y_7 := Lib.hid (own_below Y_6.out hd7)
    clear hd7 hb6
    go_wp2_with fail
    refine (markS_any A2 n c2 _ zs 1 _ X_7.out (by omega) (by omega) (by omega)).mono ?_
    rintro e w8 ⟨rfl, ho8, hg8⟩
    have hb8 : Below w.heap.size w w8 := hb7.grown hg8 hb7.size (fun k hk => Nat.le_trans (by omega) (X_7.out.lt k hk).1)
    have hs8 : w7.heap.size ≤ w8.heap.size := hg8.size
    have W_8 := Lib.hid (W_7.out.kept hg8 (by cases h0 : (Value.slice A0 N c0).ownBlock with | none => exact Or.inl rfl | some j => exact Or.inr (fun e => by have a := (W_b.out.lt j h0).2; have b := (X_b.out.lt j e.symm).1; omega)))
    have G_8 := Lib.hid (G_7.out.kept hg8 (by cases h0 : (Value.slice A3 N c3).ownBlock with | none => exact Or.inl rfl | some j => exact Or.inr (fun e => by have a := (G_b.out.lt j h0).1; have b := (X_b.out.lt j e.symm).2; omega)))
    have X_8 := Lib.hid ho8
    clear hb7 hg8 ho8
    go_wp2_with fail
    refine (eqInt64S_same A3 N c3 A0 c0 zs0 _ (IRow.of_own G_8.out (by omega) HR.out) (IRow.of_own W_8.out (by omega) HR.out)).mono ?_
    rintro e w9 ⟨rfl, hd9⟩
    have hb9 : Below w.heap.size w w9 := hb8.trans (hd9.mono hb8.size)
    have hs9 : w8.heap.size ≤ w9.heap.size := hd9.size
    have W_9 := Lib.hid (own_below W_8.out hd9)
    have X_9 := Lib.hid (own_below X_8.out hd9)
    have G_9 := Lib.hid (own_below G_8.out hd9)
    clear hd9 hb8
    go_wp2_with fail
    refine (markI_any A3 N c3 _ (zs0.map (Value.int .i64)) 1 _ G_9.out (by omega) (by omega) (by omega)).mono ?_
    rintro e w10 ⟨rfl, ho10, hg10⟩
    have hb10 : Below w.heap.size w w10 := hb9.grown hg10 hb9.size (fun k hk => Nat.le_trans (by omega) (G_9.out.lt k hk).1)
    have hs10 : w9.heap.size ≤ w10.heap.size := hg10.size
    have W_10 := Lib.hid (W_9.out.kept hg10 (by cases h0 : (Value.slice A0 N c0).ownBlock with | none => exact Or.inl rfl | some j => exact Or.inr (fun e => by have a := (W_b.out.lt j h0).2; have b := (G_b.out.lt j e.symm).1; omega)))
    have G_10 := Lib.hid ho10
    clear hb9 hg10 ho10
    go_wp2_with fail
    refine (heldI_any A3 N c3 1 _ (IRow.of_own G_10.out (by omega) (rng_mkI N (by omega))) (by omega) (by omega) (by omega)).mono ?_
    rintro e w' ⟨rfl, rfl⟩
    go_wp2_with fail
    refine (toSignedTermS_any A n cap zs _ (Hh.out.below hb10) (by omega)).mono ?_
    rintro e w11 ⟨A5, c5, rfl, oZ, hd11⟩
    have hb11 : Below w.heap.size w w11 := hb10.trans (hd11.mono hb10.size)
    have hs11 : w10.heap.size ≤ w11.heap.size := hd11.size
    have W_11 := Lib.hid (own_below W_10.out hd11)
    have G_11 := Lib.hid (own_below G_10.out hd11)
    clear hd11 hb10
    have Z_11 := Lib.hid oZ
    have Z_b := Lib.hid oZ
    clear oZ
    go_wp2_with fail
    refine (HI.out A5 c5 _ (PRow.of_own Z_11.out (by omega) Hr.out) (own_cap Z_11.out)).mono ?_
    rintro e w12 ⟨⟨A6, c6, rfl, oH⟩, hd12⟩
    have hb12 : Below w.heap.size w w12 := hb11.trans (hd12.mono hb11.size)
    have hs12 : w11.heap.size ≤ w12.heap.size := hd12.size
    have W_12 := Lib.hid (own_below W_11.out hd12)
    have G_12 := Lib.hid (own_below G_11.out hd12)
    have Z_12 := Lib.hid (own_below Z_11.out hd12)
    clear hd12 hb11
    have H_12 := Lib.hid oH
    have H_b := Lib.hid oH
    clear oH
    go_wp2_with fail
    refine (eqInt64S_same A6 N c6 A0 c0 zs0 _ (IRow.of_own H_12.out (by omega) HR.out) (IRow.of_own W_12.out (by omega) HR.out)).mono ?_
    rintro e w13 ⟨rfl, hd13⟩
    have hb13 : Below w.heap.size w w13 := hb12.trans (hd13.mono hb12.size)
    have hs13 : w12.heap.size ≤ w13.heap.size := hd13.size
    have W_13 := Lib.hid (own_below W_12.out hd13)
    have G_13 := Lib.hid (own_below G_12.out hd13)
    have H_13 := Lib.hid (own_below H_12.out hd13)
    clear hd13 hb12
    go_wp2_with fail
    refine (heldI_any A3 N c3 1 _ (IRow.of_own G_13.out (by omega) (rng_mkI N (by omega))) (by omega) (by omega) (by omega)).mono ?_
    rintro e w' ⟨rfl, rfl⟩
    go_wp2_with fail
    go_ret
    exact ⟨rfl, hb13⟩
/-- The terms with signs of the value of terms, and a code. -/
def sftL (zs : List Int) (kd : Int) : List (Int × Int) := if (valT zs).2.2 = 0 then exsL (valT zs).1 (valT zs).2.1 kd else []
def sftC (zs : List Int) (kd : Int) : Int := if (valT zs).2.2 = 0 then exsC (valT zs).1 (valT zs).2.1 kd else (valT zs).2.2
theorem sftL_len (zs : List Int) (kd : Int) : (sftL zs kd).length ≤ 60 := by
  unfold sftL
  split
  · exact exsL_len _ _ _
  · simp
theorem sftL_rng (zs : List Int) (kd : Int) : ∀ z ∈ sftL zs kd, Rng z.1 ∧ Rng z.2 := by
  unfold sftL
  split
  · exact exsL_rng _ _ _
  · intro z hz; cases hz
set_option maxHeartbeats 800000 in
theorem implSft_any (A : Option Addr) (n cap : Nat) (zs : List Int) (kd : Int) (w : World) (h : IRow w A n zs) (hcap : n ≤ cap) :
    Calls Try.prog 45 #[.slice A n cap, .int .i64 kd] w fun e w' => ResS w.heap.size (sftL zs kd) (sftC zs kd) e w' ∧ Below w.heap.size w w' := by
  have HC := Lib.hid (implVal_any A n cap zs w h hcap)
  by_cases ht : (valT zs).2.2 = 0
  · rw [show sftL zs kd = exsL (valT zs).1 (valT zs).2.1 kd from if_pos ht, show sftC zs kd = exsC (valT zs).1 (valT zs).2.1 kd from if_pos ht]
    rw [ht] at HC
    have HE := Lib.hid (fun w => implExs_any (valT zs).1 (valT zs).2.1 kd w)
    unfold ResS at HE
    generalize exsL (valT zs).1 (valT zs).2.1 kd = fs at *
    generalize exsC (valT zs).1 (valT zs).2.1 kd = k at *
    generalize (valT zs).1 = x at *
    generalize (valT zs).2.1 = y at *
    clear ht h
    go_enter Try.func45, Try.ntmps45
    go_wp2_with fail
    refine HC.out.mono ?_
    rintro e w1 ⟨rfl, hb1⟩
    go_wp2_with fail
    refine (HE.out _).mono ?_
    rintro e w2 ⟨⟨B, c, rfl, ho⟩, hb2⟩
    have HO := Lib.hid ho
    have hB2 : Below w.heap.size w w2 := (hb1.alloc hb1.size _).trans (hb2.mono (by have := hb1.size; simp; omega))
    have hs1 : w.heap.size ≤ w1.heap.size := hb1.size
    clear ho hb2 hb1
    go_wp2_with fail
    go_ret2
    exact ⟨⟨_, _, rfl, own_base HO.out (by simp; omega)⟩, hB2⟩
  · rw [show sftL zs kd = [] from if_neg ht, show sftC zs kd = (valT zs).2.2 from if_neg ht]
    have hne : ((valT zs).2.2 != 0) = true := by rw [bne_iff_ne]; exact ht
    generalize (valT zs).2.2 = k at *
    generalize (valT zs).1 = x at *
    generalize (valT zs).2.1 = y at *
    clear ht h
    go_enter Try.func45, Try.ntmps45
    go_wp2_with fail
    refine HC.out.mono ?_
    rintro e w1 ⟨rfl, hb1⟩
    go_wp2_with fail
    go_ret2
    exact ⟨⟨none, 0, rfl, World.ownsRow_nil ..⟩, hb1.alloc hb1.size _⟩
set_option maxHeartbeats 800000 in
theorem specSft_any (A : Option Addr) (n cap : Nat) (zs : List Int) (kd : Int) (w : World) (h : IRow w A n zs) (hcap : n ≤ cap) :
    Calls Try.prog 43 #[.slice A n cap, .int .i64 kd] w fun e w' => ResS w.heap.size (sftL zs kd) (sftC zs kd) e w' ∧ Below w.heap.size w w' := by
  have HC := Lib.hid (specVal_any A n cap zs w h hcap)
  by_cases ht : (valT zs).2.2 = 0
  · rw [show sftL zs kd = exsL (valT zs).1 (valT zs).2.1 kd from if_pos ht, show sftC zs kd = exsC (valT zs).1 (valT zs).2.1 kd from if_pos ht]
    rw [ht] at HC
    have HE := Lib.hid (fun w => specExs_any (valT zs).1 (valT zs).2.1 kd w)
    unfold ResS at HE
    generalize exsL (valT zs).1 (valT zs).2.1 kd = fs at *
    generalize exsC (valT zs).1 (valT zs).2.1 kd = k at *
    generalize (valT zs).1 = x at *
    generalize (valT zs).2.1 = y at *
    clear ht h
    go_enter Try.func43, Try.ntmps43
    go_wp2_with fail
    refine HC.out.mono ?_
    rintro e w1 ⟨rfl, hb1⟩
    go_wp2_with fail
    refine (HE.out _).mono ?_
    rintro e w2 ⟨⟨B, c, rfl, ho⟩, hb2⟩
    have HO := Lib.hid ho
    have hB2 : Below w.heap.size w w2 := (hb1.alloc hb1.size _).trans (hb2.mono (by have := hb1.size; simp; omega))
    have hs1 : w.heap.size ≤ w1.heap.size := hb1.size
    clear ho hb2 hb1
    go_wp2_with fail
    go_ret2
    exact ⟨⟨_, _, rfl, own_base HO.out (by simp; omega)⟩, hB2⟩
  · rw [show sftL zs kd = [] from if_neg ht, show sftC zs kd = (valT zs).2.2 from if_neg ht]
    have hne : ((valT zs).2.2 != 0) = true := by rw [bne_iff_ne]; exact ht
    generalize (valT zs).2.2 = k at *
    generalize (valT zs).1 = x at *
    generalize (valT zs).2.1 = y at *
    clear ht h
    go_enter Try.func43, Try.ntmps43
    go_wp2_with fail
    refine HC.out.mono ?_
    rintro e w1 ⟨rfl, hb1⟩
    go_wp2_with fail
    go_ret2
    exact ⟨⟨none, 0, rfl, World.ownsRow_nil ..⟩, hb1.alloc hb1.size _⟩
set_option maxHeartbeats 3200000 in
theorem fnExactSignedFromTerms_walk (w : World) (A : Option Addr) (n cap : Nat) (zs : List Int) (h : IRow w A n zs) (kd : Int) (hkd1 : -9223372036854775808 ≤ kd) (hkd2 : kd ≤ 9223372036854775807) :
    Calls Try.prog 10 #[.slice A n cap, .int .i64 kd] w fun e w' => e = .returned (.bool true) ∧ Below w.heap.size w w' := by
  have hbd := h.bd
  by_cases hn : (1048576 : Int) < n
  · go_enter Try.func10, Try.ntmps10
    go_wp2
    go_ret
    exact ⟨rfl, Below.refl _ _⟩
  · have Hr := Lib.hid h.2.2.1
    have hn0 : n ≤ 1048576 := by omega
    have Hh := Lib.hid h
    obtain ⟨N, zs0, k, hN, hrg, HS, HI⟩ : ∃ (N : Nat) (zs0 : List (Int × Int)) (k : Int), N ≤ 60 ∧ (∀ z ∈ zs0, Rng z.1 ∧ Rng z.2) ∧ Hid (∀ (A : Option Addr) (cap : Nat) (w : World), IRow w A n zs → n ≤ cap → Calls Try.prog 43 #[.slice A n cap, .int .i64 kd] w fun e w' => (∃ B c, e = .returned (.tuple #[.slice B N c, .int .i64 k]) ∧ w'.ownsRow w.heap.size 70 2 (.slice B N c) N (prs zs0)) ∧ Below w.heap.size w w') ∧ Hid (∀ (A : Option Addr) (cap : Nat) (w : World), IRow w A n zs → n ≤ cap → Calls Try.prog 45 #[.slice A n cap, .int .i64 kd] w fun e w' => (∃ B c, e = .returned (.tuple #[.slice B N c, .int .i64 k]) ∧ w'.ownsRow w.heap.size 70 2 (.slice B N c) N (prs zs0)) ∧ Below w.heap.size w w') :=
      ⟨(sftL zs kd).length, sftL zs kd, sftC zs kd, (sftL_len zs kd), (sftL_rng zs kd), fun A cap w h hc => specSft_any A n cap zs kd w h hc, fun A cap w h hc => implSft_any A n cap zs kd w h hc⟩
    have HR := Lib.hid hrg
    clear hrg h
    go_enter Try.func10, Try.ntmps10
    go_wp2_with fail
    refine (toInt64S_any A n cap zs _ Hh.out (by omega)).mono ?_
    rintro e w1 ⟨A1, c1, rfl, oXA, hd1⟩
    have hb1 : Below w.heap.size w w1 := hd1
    have hs1 : w.heap.size ≤ w1.heap.size := hd1.size
    clear hd1
    have XA_1 := Lib.hid oXA
    have XA_b := Lib.hid oXA
    clear oXA
    go_wp2_with fail
    refine (HS.out A1 c1 _ (IRow.of_own XA_1.out (by omega) Hr.out) (own_cap XA_1.out)).mono ?_
    rintro e w2 ⟨⟨A0, c0, rfl, oW⟩, hd2⟩
    have hb2 : Below w.heap.size w w2 := hb1.trans (hd2.mono hb1.size)
    have hs2 : w1.heap.size ≤ w2.heap.size := hd2.size
    have XA_2 := Lib.hid (own_below XA_1.out hd2)
    clear hd2 hb1
    have W_2 := Lib.hid oW
    have W_b := Lib.hid oW
    clear oW
    go_wp2_with fail
    refine (toInt64S_any A n cap zs _ (Hh.out.below hb2) (by omega)).mono ?_
    rintro e w3 ⟨A2, c2, rfl, oX, hd3⟩
    have hb3 : Below w.heap.size w w3 := hb2.trans (hd3.mono hb2.size)
    have hs3 : w2.heap.size ≤ w3.heap.size := hd3.size
    have XA_3 := Lib.hid (own_below XA_2.out hd3)
    have W_3 := Lib.hid (own_below W_2.out hd3)
    clear hd3 hb2
    have X_3 := Lib.hid oX
    have X_b := Lib.hid oX
    clear oX
    go_wp2_with fail
    refine (HI.out A2 c2 _ (IRow.of_own X_3.out (by omega) Hr.out) (own_cap X_3.out)).mono ?_
    rintro e w4 ⟨⟨A3, c3, rfl, oG⟩, hd4⟩
    have hb4 : Below w.heap.size w w4 := hb3.trans (hd4.mono hb3.size)
    have hs4 : w3.heap.size ≤ w4.heap.size := hd4.size
    have XA_4 := Lib.hid (own_below XA_3.out hd4)
    have W_4 := Lib.hid (own_below W_3.out hd4)
    have X_4 := Lib.hid (own_below X_3.out hd4)
    clear hd4 hb3
    have G_4 := Lib.hid oG
    have G_b := Lib.hid oG
    clear oG
    go_wp2_with fail
    refine (eqSignedTermS_same A3 N c3 A0 c0 zs0 _ (PRow.of_own G_4.out (by omega) HR.out) (PRow.of_own W_4.out (by omega) HR.out)).mono ?_
    rintro e w5 ⟨rfl, hd5⟩
    have hb5 : Below w.heap.size w w5 := hb4.trans (hd5.mono hb4.size)
    have hs5 : w4.heap.size ≤ w5.heap.size := hd5.size
    have XA_5 := Lib.hid (own_below XA_4.out hd5)
    have W_5 := Lib.hid (own_below W_4.out hd5)
    have X_5 := Lib.hid (own_below X_4.out hd5)
    have G_5 := Lib.hid (own_below G_4.out hd5)
    clear hd5 hb4
    go_wp2_with fail
    refine (toInt64S_any A n cap zs _ (Hh.out.below hb5) (by omega)).mono ?_
    rintro e w6 ⟨A4, c4, rfl, oY, hd6⟩
    have hb6 : Below w.heap.size w w6 := hb5.trans (hd6.mono hb5.size)
    have hs6 : w5.heap.size ≤ w6.heap.size := hd6.size
    have XA_6 := Lib.hid (own_below XA_5.out hd6)
    have W_6 := Lib.hid (own_below W_5.out hd6)
    have X_6 := Lib.hid (own_below X_5.out hd6)
    have G_6 := Lib.hid (own_below G_5.out hd6)
    clear hd6 hb5
    have Y_6 := Lib.hid oY
    have Y_b := Lib.hid oY
    clear oY
    go_wp2_with fail
    refine (eqInt64S_same A2 n c2 A4 c4 zs _ (IRow.of_own X_6.out (by omega) Hr.out) (IRow.of_own Y_6.out (by omega) Hr.out)).mono ?_
    rintro e w7 ⟨rfl, hd7⟩
    have hb7 : Below w.heap.size w w7 := hb6.trans (hd7.mono hb6.size)
    have hs7 : w6.heap.size ≤ w7.heap.size := hd7.size
    have XA_7 := Lib.hid (own_below XA_6.out hd7)
    have W_7 := Lib.hid (own_below W_6.out hd7)
    have X_7 := Lib.hid (own_below X_6.out hd7)
    have G_7 := Lib.hid (own_below G_6.out hd7)
    have Y_7 := Lib.hid (own_below Y_6.out hd7)
    clear hd7 hb6
    go_wp2_with fail
    refine (markI_any A2 n c2 _ (zs.map (Value.int .i64)) 1 _ X_7.out (by omega) (by omega) (by omega)).mono ?_
    rintro e w8 ⟨rfl, ho8, hg8⟩
    have hb8 : Below w.heap.size w w8 := hb7.grown hg8 hb7.size (fun k hk => Nat.le_trans (by omega) (X_7.out.lt k hk).1)
    have hs8 : w7.heap.size ≤ w8.heap.size := hg8.size
    have W_8 := Lib.hid (W_7.out.kept hg8 (by cases h0 : (Value.slice A0 N c0).ownBlock with | none => exact Or.inl rfl | some j => exact Or.inr (fun e => by have a := (W_b.out.lt j h0).2; have b := (X_b.out.lt j e.symm).1; omega)))
    have G_8 := Lib.hid (G_7.out.kept hg8 (by cases h0 : (Value.slice A3 N c3).ownBlock with | none => exact Or.inl rfl | some j => exact Or.inr (fun e => by have a := (G_b.out.lt j h0).1; have b := (X_b.out.lt j e.symm).2; omega)))
    have X_8 := Lib.hid ho8
    clear hb7 hg8 ho8
    go_wp2_with fail
    refine (eqSignedTermS_same A3 N c3 A0 c0 zs0 _ (PRow.of_own G_8.out (by omega) HR.out) (PRow.of_own W_8.out (by omega) HR.out)).mono ?_
    rintro e w9 ⟨rfl, hd9⟩
    have hb9 : Below w.heap.size w w9 := hb8.trans (hd9.mono hb8.size)
    have hs9 : w8.heap.size ≤ w9.heap.size := hd9.size
    have W_9 := Lib.hid (own_below W_8.out hd9)
    have X_9 := Lib.hid (own_below X_8.out hd9)
    have G_9 := Lib.hid (own_below G_8.out hd9)
    clear hd9 hb8
    go_wp2_with fail
    refine (markS_any A3 N c3 _ zs0 1 _ G_9.out (by omega) (by omega) (by omega)).mono ?_
    rintro e w10 ⟨rfl, ho10, hg10⟩
    have hb10 : Below w.heap.size w w10 := hb9.grown hg10 hb9.size (fun k hk => Nat.le_trans (by omega) (G_9.out.lt k hk).1)
    have hs10 : w9.heap.size ≤ w10.heap.size := hg10.size
    have W_10 := Lib.hid (W_9.out.kept hg10 (by cases h0 : (Value.slice A0 N c0).ownBlock with | none => exact Or.inl rfl | some j => exact Or.inr (fun e => by have a := (W_b.out.lt j h0).2; have b := (G_b.out.lt j e.symm).1; omega)))
    have G_10 := Lib.hid ho10
    clear hb9 hg10 ho10
    go_wp2_with fail
    refine (heldS_any A3 N c3 1 _ (PRow.of_own G_10.out (by omega) (rng_mkP N (by omega))) (by omega) (by omega) (by omega)).mono ?_
    rintro e w' ⟨rfl, rfl⟩
    go_wp2_with fail
    refine (toInt64S_any A n cap zs _ (Hh.out.below hb10) (by omega)).mono ?_
    rintro e w11 ⟨A5, c5, rfl, oZ, hd11⟩
    have hb11 : Below w.heap.size w w11 := hb10.trans (hd11.mono hb10.size)
    have hs11 : w10.heap.size ≤ w11.heap.size := hd11.size
    have W_11 := Lib.hid (own_below W_10.out hd11)
    have G_11 := Lib.hid (own_below G_10.out hd11)
    clear hd11 hb10
    have Z_11 := Lib.hid oZ
    have Z_b := Lib.hid oZ
    clear oZ
    go_wp2_with fail
    refine (HI.out A5 c5 _ (IRow.of_own Z_11.out (by omega) Hr.out) (own_cap Z_11.out)).mono ?_
    rintro e w12 ⟨⟨A6, c6, rfl, oH⟩, hd12⟩
    have hb12 : Below w.heap.size w w12 := hb11.trans (hd12.mono hb11.size)
    have hs12 : w11.heap.size ≤ w12.heap.size := hd12.size
    have W_12 := Lib.hid (own_below W_11.out hd12)
    have G_12 := Lib.hid (own_below G_11.out hd12)
    have Z_12 := Lib.hid (own_below Z_11.out hd12)
    clear hd12 hb11
    have H_12 := Lib.hid oH
    have H_b := Lib.hid oH
    clear oH
    go_wp2_with fail
    refine (eqSignedTermS_same A6 N c6 A0 c0 zs0 _ (PRow.of_own H_12.out (by omega) HR.out) (PRow.of_own W_12.out (by omega) HR.out)).mono ?_
    rintro e w13 ⟨rfl, hd13⟩
    have hb13 : Below w.heap.size w w13 := hb12.trans (hd13.mono hb12.size)
    have hs13 : w12.heap.size ≤ w13.heap.size := hd13.size
    have W_13 := Lib.hid (own_below W_12.out hd13)
    have G_13 := Lib.hid (own_below G_12.out hd13)
    have H_13 := Lib.hid (own_below H_12.out hd13)
    clear hd13 hb12
    go_wp2_with fail
    refine (heldS_any A3 N c3 1 _ (PRow.of_own G_13.out (by omega) (rng_mkP N (by omega))) (by omega) (by omega) (by omega)).mono ?_
    rintro e w' ⟨rfl, rfl⟩
    go_wp2_with fail
    go_ret
    exact ⟨rfl, hb13⟩
end Go.Proofs.Ytjkonkoiofhefaa
