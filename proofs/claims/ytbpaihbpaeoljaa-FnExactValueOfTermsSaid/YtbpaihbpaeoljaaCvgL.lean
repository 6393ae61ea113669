/-
  The convergents and the value of terms: contracts of the exported functions; the walks of the laws FnExactConvergentsOf and FnExactValueOfTerms.
  No condition but those of the laws' own texts.
-/
import Derived.Test.YtbpaihbpaeoljaaProg
import Derived.Test.YtbpaihbpaeoljaaMem
import Derived.Test.YtbpaihbpaeoljaaBasic
import Derived.Test.YtbpaihbpaeoljaaAllk
import Derived.Test.YtbpaihbpaeoljaaInts
import Derived.Test.YtbpaihbpaeoljaaFrac
import Derived.Test.YtbpaihbpaeoljaaFrac3
import Derived.Test.YtbpaihbpaeoljaaTerms
import Derived.Test.YtbpaihbpaeoljaaMarks
import Derived.Test.YtbpaihbpaeoljaaOwn
import Derived.Test.YtbpaihbpaeoljaaEqF
import Derived.Test.YtbpaihbpaeoljaaCvg
import Derived.Handy
import Derived.BigQuiet
import Derived.Deep.QuietTactic
namespace Go.Proofs.Ytbpaihbpaeoljaa
open Go.RowKit
set_option linter.unusedVariables false
attribute [local go_sem ↓] Go.wp_at_zero Go.wp_at_succ

theorem trm_in {zs : List Int} (h : trmB zs = true) : 1 ≤ zs.length ∧ zs.length ≤ 60 ∧ ∀ z ∈ zs, -1000000000 ≤ z ∧ z ≤ 1000000000 := by
  obtain ⟨h1, h2, h3⟩ := trmB_iff.1 h
  refine ⟨h1, h2, fun z hz => ?_⟩
  obtain ⟨k, hk⟩ := List.mem_iff_getElem?.1 hz
  have := h3 k z hk
  split at this <;> omega
theorem trm_in2 {zs : List Int} (h : trmB zs = true) : ∀ z ∈ zs, -2000000000 ≤ z ∧ z ≤ 2000000000 := fun z hz => by have := (trm_in h).2.2 z hz; omega

/-- The convergents of terms, and the code. -/
def cvfL (zs : List Int) : List (Int × Int) := if trmB zs = true then cvgL zs else []
def cvfC (zs : List Int) : Int := if trmB zs = true then (if cvgB zs = true then 0 else 5) else 1
theorem cvfL_len (zs : List Int) : (cvfL zs).length ≤ zs.length := by
  unfold cvfL
  split
  · exact cvgL_len zs
  · exact Nat.zero_le _
theorem cvfL_rng (zs : List Int) : ∀ z ∈ cvfL zs, Rng z.1 ∧ Rng z.2 := by
  unfold cvfL
  split
  · exact cvgL_rng zs
  · intro z hz; cases hz
theorem cvg_nil {zs : List Int} (h : cvgB zs = false) : cvgL zs = [] := by
  unfold cvgB at h
  unfold cvgL
  cases hc : cvgO zs 1 0 0 1 with
  | none => rfl
  | some l => rw [hc] at h; cases h
theorem cvg_full {zs : List Int} (h : cvgB zs = true) : (cvgL zs).length = zs.length := by
  unfold cvgB at h
  unfold cvgL
  cases hc : cvgO zs 1 0 0 1 with
  | none => rw [hc] at h; cases h
  | some l => exact (cvgO_len zs _ _ _ _ l hc).1

theorem implCvf_any (A : Option Addr) (n cap : Nat) (zs : List Int) (w : World) (h : IRow w A n zs) (hcap : n ≤ cap) :
    Calls Try.prog 44 #[.slice A n cap] w fun e w' => ResF w.heap.size (cvfL zs) (cvfC zs) e w' ∧ Below w.heap.size w w' := by
  cases ht : trmB zs
  · rw [show cvfL zs = [] from if_neg (by simp [ht]), show cvfC zs = 1 from if_neg (by simp [ht])]
    go_enter Try.func44, Try.ntmps44
    go_wp2_with fail
    refine (validTerms_any A n cap zs _ h hcap).mono ?_
    rintro e w' ⟨rfl, rfl⟩
    go_wp2_with fail
    go_ret2
    exact ⟨⟨none, 0, rfl, World.ownsRow_nil ..⟩, Below.refl _ _⟩
  · obtain ⟨t1, t2, t3⟩ := trm_in ht
    have hn : n ≤ 60 := by rw [← h.len]; exact t2
    rw [show cvfL zs = cvgL zs from if_pos ht, show cvfC zs = if cvgB zs = true then 0 else 5 from if_pos ht]
    have HC := Lib.hid (convergents_any A n cap zs w h (by omega) (trm_in2 ht))
    clear t1 t2 t3
    cases hb : cvgB zs
    · rw [cvg_nil hb] at *
      go_enter Try.func44, Try.ntmps44
      go_wp2_with fail
      refine (validTerms_any A n cap zs _ h hcap).mono ?_
      rintro e w' ⟨rfl, rfl⟩
      go_wp2_with fail
      refine HC.out.mono ?_
      rintro e w1 ⟨⟨B, c, rfl, ho⟩, hb1⟩
      clear ho
      go_wp2_with fail
      go_ret2
      exact ⟨⟨none, 0, rfl, World.ownsRow_nil ..⟩, hb1⟩
    · go_enter Try.func44, Try.ntmps44
      go_wp2_with fail
      refine (validTerms_any A n cap zs _ h hcap).mono ?_
      rintro e w' ⟨rfl, rfl⟩
      go_wp2_with fail
      refine HC.out.mono ?_
      rintro e w1 ⟨⟨B, c, rfl, ho⟩, hb1⟩
      have HO := Lib.hid ho
      clear ho
      go_wp2_with fail
      go_ret2
      exact ⟨⟨B, c, rfl, HO.out⟩, hb1⟩
theorem specCvf_any (A : Option Addr) (n cap : Nat) (zs : List Int) (w : World) (h : IRow w A n zs) (hcap : n ≤ cap) :
    Calls Try.prog 43 #[.slice A n cap] w fun e w' => ResF w.heap.size (cvfL zs) (cvfC zs) e w' ∧ Below w.heap.size w w' := by
  cases ht : trmB zs
  · rw [show cvfL zs = [] from if_neg (by simp [ht]), show cvfC zs = 1 from if_neg (by simp [ht])]
    go_enter Try.func43, Try.ntmps43
    go_wp2_with fail
    refine (l03Ok_any A n cap zs _ h  ).mono ?_
    rintro e w' ⟨rfl, rfl⟩
    go_wp2_with fail
    go_ret2
    exact ⟨⟨none, 0, rfl, World.ownsRow_nil ..⟩, Below.refl _ _⟩
  · obtain ⟨t1, t2, t3⟩ := trm_in ht
    have hn : n ≤ 60 := by rw [← h.len]; exact t2
    rw [show cvfL zs = cvgL zs from if_pos ht, show cvfC zs = if cvgB zs = true then 0 else 5 from if_pos ht]
    have HC := Lib.hid (l03Convergents_any A n cap zs w h (by omega) (trm_in2 ht))
    clear t1 t2 t3
    cases hb : cvgB zs
    · rw [cvg_nil hb] at *
      go_enter Try.func43, Try.ntmps43
      go_wp2_with fail
      refine (l03Ok_any A n cap zs _ h  ).mono ?_
      rintro e w' ⟨rfl, rfl⟩
      go_wp2_with fail
      refine HC.out.mono ?_
      rintro e w1 ⟨⟨B, c, rfl, ho⟩, hb1⟩
      clear ho
      go_wp2_with fail
      go_ret2
      exact ⟨⟨none, 0, rfl, World.ownsRow_nil ..⟩, hb1⟩
    · go_enter Try.func43, Try.ntmps43
      go_wp2_with fail
      refine (l03Ok_any A n cap zs _ h  ).mono ?_
      rintro e w' ⟨rfl, rfl⟩
      go_wp2_with fail
      refine HC.out.mono ?_
      rintro e w1 ⟨⟨B, c, rfl, ho⟩, hb1⟩
      have HO := Lib.hid ho
      clear ho
      go_wp2_with fail
      go_ret2
      exact ⟨⟨B, c, rfl, HO.out⟩, hb1⟩
set_option maxHeartbeats 3200000 in
theorem fnExactConvergentsOf_walk (w : World) (A : Option Addr) (n cap : Nat) (zs : List Int) (h : IRow w A n zs) :
    Calls Try.prog 13 #[.slice A n cap] w fun e w' => e = .returned (.bool true) ∧ Below w.heap.size w w' := by
  by_cases hn : (1048576 : Int) < n
  · go_enter Try.func13, Try.ntmps13
    go_wp2
    go_ret
    exact ⟨rfl, Below.refl _ _⟩
  · have Hr := Lib.hid h.2.2.1
    have hn0 : n ≤ 1048576 := by omega
    have Hh := Lib.hid h
    obtain ⟨N, zs0, k, hN, hrg, HS, HI⟩ : ∃ (N : Nat) (zs0 : List (Int × Int)) (k : Int), N ≤ 1048576 ∧ (∀ z ∈ zs0, Rng z.1 ∧ Rng z.2) ∧ Hid (∀ (A : Option Addr) (cap : Nat) (w : World), IRow w A n zs → n ≤ cap → Calls Try.prog 43 #[.slice A n cap] w fun e w' => (∃ B c, e = .returned (.tuple #[.slice B N c, .int .i64 k]) ∧ w'.ownsRow w.heap.size 27 2 (.slice B N c) N (prs zs0)) ∧ Below w.heap.size w w') ∧ Hid (∀ (A : Option Addr) (cap : Nat) (w : World), IRow w A n zs → n ≤ cap → Calls Try.prog 44 #[.slice A n cap] w fun e w' => (∃ B c, e = .returned (.tuple #[.slice B N c, .int .i64 k]) ∧ w'.ownsRow w.heap.size 27 2 (.slice B N c) N (prs zs0)) ∧ Below w.heap.size w w') :=
      ⟨(cvfL zs).length, cvfL zs, cvfC zs, (by have := cvfL_len zs; have := Hh.out.len; omega), (cvfL_rng zs), fun A cap w h hc => specCvf_any A n cap zs w h hc, fun A cap w h hc => implCvf_any A n cap zs w h hc⟩
    have HR := Lib.hid hrg
    clear hrg h
    go_enter Try.func13, Try.ntmps13
    go_wp2_with fail
    refine (toInt64S_any A n cap zs _ Hh.out (by omega)).mono ?_
    rintro e w1 ⟨A1, c1, rfl, oXA, hd1⟩
    have hb1 : Below w.heap.size w w1 := hd1
    have hs1 : w.heap.size ≤ w1.heap.size := hd1.size
    clear hd1
    have XA_1 := Lib.hid oXA
    have XA_b := Lib.hid oXA
    clear oXA
    go_wp2_with fail
    refine (HS.out A1 c1 _ (IRow.of_own XA_1.out (by omega) Hr.out) (own_cap XA_1.out)).mono ?_
    rintro e w2 ⟨⟨A0, c0, rfl, oW⟩, hd2⟩
    have hb2 : Below w.heap.size w w2 := hb1.trans (hd2.mono hb1.size)
    have hs2 : w1.heap.size ≤ w2.heap.size := hd2.size
    have XA_2 := Lib.hid (own_below XA_1.out hd2)
    clear hd2 hb1
    have W_2 := Lib.hid oW
    have W_b := Lib.hid oW
    clear oW
    go_wp2_with fail
    refine (toInt64S_any A n cap zs _ (Hh.out.below hb2) (by omega)).mono ?_
    rintro e w3 ⟨A2, c2, rfl, oX, hd3⟩
    have hb3 : Below w.heap.size w w3 := hb2.trans (hd3.mono hb2.size)
    have hs3 : w2.heap.size ≤ w3.heap.size := hd3.size
    have XA_3 := Lib.hid (own_below XA_2.out hd3)
    have W_3 := Lib.hid (own_below W_2.out hd3)
    clear hd3 hb2
    have X_3 := Lib.hid oX
    have X_b := Lib.hid oX
    clear oX
    go_wp2_with fail
    refine (HI.out A2 c2 _ (IRow.of_own X_3.out (by omega) Hr.out) (own_cap X_3.out)).mono ?_
    rintro e w4 ⟨⟨A3, c3, rfl, oG⟩, hd4⟩
    have hb4 : Below w.heap.size w w4 := hb3.trans (hd4.mono hb3.size)
    have hs4 : w3.heap.size ≤ w4.heap.size := hd4.size
    have XA_4 := Lib.hid (own_below XA_3.out hd4)
    have W_4 := Lib.hid (own_below W_3.out hd4)
    have X_4 := Lib.hid (own_below X_3.out hd4)
    clear hd4 hb3
    have G_4 := Lib.hid oG
    have G_b := Lib.hid oG
    clear oG
    go_wp2_with fail
    refine (eqFractionS_same A3 N c3 A0 c0 zs0 _ (PRow.of_own G_4.out (by omega) HR.out) (PRow.of_own W_4.out (by omega) HR.out)).mono ?_
    rintro e w5 ⟨rfl, hd5⟩
    have hb5 : Below w.heap.size w w5 := hb4.trans (hd5.mono hb4.size)
    have hs5 : w4.heap.size ≤ w5.heap.size := hd5.size
    have XA_5 := Lib.hid (own_below XA_4.out hd5)
    have W_5 := Lib.hid (own_below W_4.out hd5)
    have X_5 := Lib.hid (own_below X_4.out hd5)
    have G_5 := Lib.hid (own_below G_4.out hd5)
    clear hd5 hb4
    go_wp2_with fail
    refine (toInt64S_any A n cap zs _ (Hh.out.below hb5) (by omega)).mono ?_
    rintro e w6 ⟨A4, c4, rfl, oY, hd6⟩
    have hb6 : Below w.heap.size w w6 := hb5.trans (hd6.mono hb5.size)
    have hs6 : w5.heap.size ≤ w6.heap.size := hd6.size
    have XA_6 := Lib.hid (own_below XA_5.out hd6)
    have W_6 := Lib.hid (own_below W_5.out hd6)
    have X_6 := Lib.hid (own_below X_5.out hd6)
    have G_6 := Lib.hid (own_below G_5.out hd6)
    clear hd6 hb5
    have Y_6 := Lib.hid oY
    have Y_b := Lib.hid oY
    clear oY
    go_wp2_with fail
    refine (eqInt64S_same A2 n c2 A4 c4 zs _ (IRow.of_own X_6.out (by omega) Hr.out) (IRow.of_own Y_6.out (by omega) Hr.out)).mono ?_
    rintro e w7 ⟨rfl, hd7⟩
    have hb7 : Below w.heap.size w w7 := hb6.trans (hd7.mono hb6.size)
    have hs7 : w6.heap.size ≤ w7.heap.size := hd7.size
    have XA_7 := Lib.hid (own_below XA_6.out hd7)
    have W_7 := Lib.hid (own_below W_6.out hd7)
    have X_7 := Lib.hid (own_below X_6.out hd7)
    have G_7 := Lib.hid (own_below G_6.out hd7)
    have Y_7 := Lib.hid (own_below Y_6.out hd7)
    clear hd7 hb6
    go_wp2_with fail
    refine (markI_any A2 n c2 _ (zs.map (Value.int .i64)) 1 _ X_7.out (by omega) (by omega) (by omega)).mono ?_
    rintro e w8 ⟨rfl, ho8, hg8⟩
    have hb8 : Below w.heap.size w w8 := hb7.grown hg8 hb7.size (fun k hk => Nat.le_trans (by omega) (X_7.out.lt k hk).1)
    have hs8 : w7.heap.size ≤ w8.heap.size := hg8.size
    have W_8 := Lib.hid (W_7.out.kept hg8 (by cases h0 : (Value.slice A0 N c0).ownBlock with | none => exact Or.inl rfl | some j => exact Or.inr (fun e => by have a := (W_b.out.lt j h0).2; have b := (X_b.out.lt j e.symm).1; omega)))
    have G_8 := Lib.hid (G_7.out.kept hg8 (by cases h0 : (Value.slice A3 N c3).ownBlock with | none => exact Or.inl rfl | some j => exact Or.inr (fun e => by have a := (G_b.out.lt j h0).1; have b := (X_b.out.lt j e.symm).2; omega)))
    have X_8 := Lib.hid ho8
    clear hb7 hg8 ho8
    go_wp2_with fail
    refine (eqFractionS_same A3 N c3 A0 c0 zs0 _ (PRow.of_own G_8.out (by omega) HR.out) (PRow.of_own W_8.out (by omega) HR.out)).mono ?_
    rintro e w9 ⟨rfl, hd9⟩
    have hb9 : Below w.heap.size w w9 := hb8.trans (hd9.mono hb8.size)
    have hs9 : w8.heap.size ≤ w9.heap.size := hd9.size
    have W_9 := Lib.hid (own_below W_8.out hd9)
    have X_9 := Lib.hid (own_below X_8.out hd9)
    have G_9 := Lib.hid (own_below G_8.out hd9)
    clear hd9 hb8
    go_wp2_with fail
    refine (markF_any A3 N c3 _ zs0 1 _ G_9.out (by omega) (by omega) (by omega)).mono ?_
    rintro e w10 ⟨rfl, ho10, hg10⟩
    have hb10 : Below w.heap.size w w10 := hb9.grown hg10 hb9.size (fun k hk => Nat.le_trans (by omega) (G_9.out.lt k hk).1)
    have hs10 : w9.heap.size ≤ w10.heap.size := hg10.size
    have W_10 := Lib.hid (W_9.out.kept hg10 (by cases h0 : (Value.slice A0 N c0).ownBlock with | none => exact Or.inl rfl | some j => exact Or.inr (fun e => by have a := (W_b.out.lt j h0).2; have b := (G_b.out.lt j e.symm).1; omega)))
    have G_10 := Lib.hid ho10
    clear hb9 hg10 ho10
    go_wp2_with fail
    refine (heldF_any A3 N c3 1 _ (PRow.of_own G_10.out (by omega) (rng_mkP N (by omega))) (by omega) (by omega) (by omega)).mono ?_
    rintro e w' ⟨rfl, rfl⟩
    go_wp2_with fail
    refine (toInt64S_any A n cap zs _ (Hh.out.below hb10) (by omega)).mono ?_
    rintro e w11 ⟨A5, c5, rfl, oZ, hd11⟩
    have hb11 : Below w.heap.size w w11 := hb10.trans (hd11.mono hb10.size)
    have hs11 : w10.heap.size ≤ w11.heap.size := hd11.size
    have W_11 := Lib.hid (own_below W_10.out hd11)
    have G_11 := Lib.hid (own_below G_10.out hd11)
    clear hd11 hb10
    have Z_11 := Lib.hid oZ
    have Z_b := Lib.hid oZ
    clear oZ
    go_wp2_with fail
    refine (HI.out A5 c5 _ (IRow.of_own Z_11.out (by omega) Hr.out) (own_cap Z_11.out)).mono ?_
    rintro e w12 ⟨⟨A6, c6, rfl, oH⟩, hd12⟩
    have hb12 : Below w.heap.size w w12 := hb11.trans (hd12.mono hb11.size)
    have hs12 : w11.heap.size ≤ w12.heap.size := hd12.size
    have W_12 := Lib.hid (own_below W_11.out hd12)
    have G_12 := Lib.hid (own_below G_11.out hd12)
    have Z_12 := Lib.hid (own_below Z_11.out hd12)
    clear hd12 hb11
    have H_12 := Lib.hid oH
    have H_b := Lib.hid oH
    clear oH
    go_wp2_with fail
    refine (eqFractionS_same A6 N c6 A0 c0 zs0 _ (PRow.of_own H_12.out (by omega) HR.out) (PRow.of_own W_12.out (by omega) HR.out)).mono ?_
    rintro e w13 ⟨rfl, hd13⟩
    have hb13 : Below w.heap.size w w13 := hb12.trans (hd13.mono hb12.size)
    have hs13 : w12.heap.size ≤ w13.heap.size := hd13.size
    have W_13 := Lib.hid (own_below W_12.out hd13)
    have G_13 := Lib.hid (own_below G_12.out hd13)
    have H_13 := Lib.hid (own_below H_12.out hd13)
    clear hd13 hb12
    go_wp2_with fail
    refine (heldF_any A3 N c3 1 _ (PRow.of_own G_13.out (by omega) (rng_mkP N (by omega))) (by omega) (by omega) (by omega)).mono ?_
    rintro e w' ⟨rfl, rfl⟩
    go_wp2_with fail
    go_ret
    exact ⟨rfl, hb13⟩
end Go.Proofs.Ytbpaihbpaeoljaa
