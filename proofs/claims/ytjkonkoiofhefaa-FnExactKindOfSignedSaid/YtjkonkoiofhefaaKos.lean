/-
  Are terms with signs those of their value by a kind: contracts of the exported functions; the walk of the law FnExactKindOfSigned.
  No condition but those of the law's own text.
-/
import Derived.Test.YtjkonkoiofhefaaProg
import Derived.Test.YtjkonkoiofhefaaMem
import Derived.Test.YtjkonkoiofhefaaBasic
import Derived.Test.YtjkonkoiofhefaaAllk
import Derived.Test.YtjkonkoiofhefaaInts
import Derived.Test.YtjkonkoiofhefaaSig
import Derived.Test.YtjkonkoiofhefaaFrac
import Derived.Test.YtjkonkoiofhefaaFrac2
import Derived.Test.YtjkonkoiofhefaaSgn
import Derived.Test.YtjkonkoiofhefaaMarks
import Derived.Test.YtjkonkoiofhefaaOwn
import Derived.Test.YtjkonkoiofhefaaExp
import Derived.Test.YtjkonkoiofhefaaKnd
import Derived.Test.YtjkonkoiofhefaaSct
import Derived.Test.YtjkonkoiofhefaaSvl
import Derived.Handy
import Derived.BigQuiet
import Derived.Deep.QuietTactic
namespace Go.Proofs.Ytjkonkoiofhefaa
open Go.RowKit
set_option linter.unusedVariables false
set_option linter.unusedSimpArgs false
attribute [local go_sem ↓] Go.wp_at_zero Go.wp_at_succ

/-- Are the terms those of their value by a kind. -/
def kosE (x y kd : Int) (zs : List (Int × Int)) : Bool := decide (exsC x y kd = 0) && sameB (exsL x y kd) zs
def kosB (zs : List (Int × Int)) (kd : Int) : Bool := sgnB zs && inB kd 1 4 && decide (scfC zs = 0) && kosE (vlsT zs).1 (vlsT zs).2.1 kd zs
def kosC (zs : List (Int × Int)) (kd : Int) : Int := if sgnB zs = true then (if inB kd 1 4 = true then 0 else 2) else 1

set_option maxHeartbeats 1600000 in
theorem implKos_any (A : Option Addr) (n cap : Nat) (zs : List (Int × Int)) (kd : Int) (w : World) (h : PRow w A n zs) (hcap : n ≤ cap) :
    Calls Try.prog 47 #[.slice A n cap, .int .i64 kd] w fun e w' => e = .returned (.tuple #[.bool (kosB zs kd), .int .i64 (kosC zs kd)]) ∧ Below w.heap.size w w' := by
  have HV := Lib.hid (validSigned_any A n cap zs w h hcap)
  have HK := Lib.hid (fun w => isKind_any kd w)
  cases hs : sgnB zs
  · rw [show kosB zs kd = false from by unfold kosB; rw [hs]; rfl, show kosC zs kd = 1 from if_neg (by simp [hs])]
    rw [hs] at HV
    go_enter Try.func47, Try.ntmps47
    go_wp2_with fail
    refine HV.out.mono ?_
    rintro e w0 ⟨rfl, hb0⟩
    go_wp2_with fail
    go_ret2
    exact ⟨rfl, hb0⟩
  · rw [hs] at HV
    cases hk : inB kd 1 4
    · rw [show kosB zs kd = false from by unfold kosB; rw [hs, hk]; rfl, show kosC zs kd = 2 from by unfold kosC; rw [if_pos hs, if_neg (by simp [hk])]]
      rw [hk] at HK
      go_enter Try.func47, Try.ntmps47
      go_wp2_with fail
      refine HV.out.mono ?_
      rintro e w0 ⟨rfl, hb0⟩
      go_wp2_with fail
      refine (HK.out _).mono ?_
      rintro e w' ⟨rfl, rfl⟩
      go_wp2_with fail
      go_ret2
      exact ⟨rfl, hb0⟩
    · rw [show kosC zs kd = 0 from by unfold kosC; rw [if_pos hs, if_pos hk]]
      rw [hk] at HK
      have HC := Lib.hid (fun w h => implVls_any A n cap zs w h hcap)
      by_cases ht : scfC zs = 0
      · rw [show kosB zs kd = kosE (vlsT zs).1 (vlsT zs).2.1 kd zs from by unfold kosB; rw [hs, hk, decide_eq_true ht]; rfl]
        rw [(vls_ok ht).2] at HC
        generalize (vlsT zs).1 = x at *
        generalize (vlsT zs).2.1 = y at *
        unfold kosE
        have HE := Lib.hid (fun w => implExs_any x y kd w)
        unfold ResS at HE
        have hr := exsL_rng x y kd
        have hl := exsL_len x y kd
        generalize exsL x y kd = fs at *
        generalize exsC x y kd = k at *
        have HR := Lib.hid hr
        have Hh := Lib.hid h
        clear ht hs hk h hr
        by_cases hk0 : k = 0
        · subst hk0
          rw [decide_eq_true (rfl : (0 : Int) = 0), Bool.true_and]
          go_enter Try.func47, Try.ntmps47
          go_wp2_with fail
          refine HV.out.mono ?_
          rintro e w0 ⟨rfl, hb0⟩
          go_wp2_with fail
          refine (HK.out _).mono ?_
          rintro e w' ⟨rfl, rfl⟩
          go_wp2_with fail
          refine (HC.out _ (Hh.out.below hb0)).mono ?_
          rintro e w1 ⟨rfl, hd1⟩
          have hb1 : Below w.heap.size w w1 := hb0.trans (hd1.mono hb0.size)
          clear hd1 hb0
          go_wp2_with fail
          refine (HE.out _).mono ?_
          rintro e w2 ⟨⟨B, c, rfl, ho⟩, hb2⟩
          have HO := Lib.hid ho
          have hB2 : Below w.heap.size w w2 := (hb1.alloc hb1.size _).trans (hb2.mono (by have := hb1.size; simp; omega))
          clear ho hb2 hb1
          go_wp2_with fail
          refine (implSame_b B _ c A n cap fs zs _ (PRow.of_own HO.out (by omega) HR.out) (Hh.out.below hB2)).mono ?_
          rintro e w3 ⟨rfl, hb3⟩
          go_wp2_with fail
          go_ret2
          exact ⟨rfl, hB2.trans (hb3.mono hB2.size)⟩
        · rw [decide_eq_false hk0, Bool.false_and]
          have hne : (k == 0) = false := by rw [beq_eq_false_iff_ne]; exact hk0
          go_enter Try.func47, Try.ntmps47
          go_wp2_with fail
          refine HV.out.mono ?_
          rintro e w0 ⟨rfl, hb0⟩
          go_wp2_with fail
          refine (HK.out _).mono ?_
          rintro e w' ⟨rfl, rfl⟩
          go_wp2_with fail
          refine (HC.out _ (Hh.out.below hb0)).mono ?_
          rintro e w1 ⟨rfl, hd1⟩
          have hb1 : Below w.heap.size w w1 := hb0.trans (hd1.mono hb0.size)
          clear hd1 hb0
          go_wp2_with fail
          refine (HE.out _).mono ?_
          rintro e w2 ⟨⟨B, c, rfl, ho⟩, hb2⟩
          have hB2 : Below w.heap.size w w2 := (hb1.alloc hb1.size _).trans (hb2.mono (by have := hb1.size; simp; omega))
          clear ho hb2 hb1
          go_wp2_with fail
          go_ret2
          exact ⟨rfl, hB2⟩
      · rw [show kosB zs kd = false from by unfold kosB; rw [hs, hk, decide_eq_false ht]; rfl]
        rw [vls_bad ht] at HC
        have hne : (scfC zs != 0) = true := by rw [bne_iff_ne]; exact ht
        generalize scfC zs = k at *
        have Hh := Lib.hid h
        clear ht hs hk h
        go_enter Try.func47, Try.ntmps47
        go_wp2_with fail
        refine HV.out.mono ?_
        rintro e w0 ⟨rfl, hb0⟩
        go_wp2_with fail
        refine (HK.out _).mono ?_
        rintro e w' ⟨rfl, rfl⟩
        go_wp2_with fail
        refine (HC.out _ (Hh.out.below hb0)).mono ?_
        rintro e w1 ⟨rfl, hd1⟩
        have hb1 : Below w.heap.size w w1 := hb0.trans (hd1.mono hb0.size)
        clear hd1 hb0
        go_wp2_with fail
        go_ret2
        exact ⟨rfl, hb1.alloc hb1.size _⟩
set_option maxHeartbeats 1600000 in
theorem specKos_any (A : Option Addr) (n cap : Nat) (zs : List (Int × Int)) (kd : Int) (w : World) (h : PRow w A n zs) :
    Calls Try.prog 46 #[.slice A n cap, .int .i64 kd] w fun e w' => e = .returned (.tuple #[.bool (kosB zs kd), .int .i64 (kosC zs kd)]) ∧ Below w.heap.size w w' := by
  have HV := Lib.hid (l04Ok_any A n cap zs w h)
  have HK := Lib.hid (fun w => l04Kind_any kd w)
  cases hs : sgnB zs
  · rw [show kosB zs kd = false from by unfold kosB; rw [hs]; rfl, show kosC zs kd = 1 from if_neg (by simp [hs])]
    rw [hs] at HV
    go_enter Try.func46, Try.ntmps46
    go_wp2_with fail
    refine HV.out.mono ?_
    rintro e w' ⟨rfl, rfl⟩
    go_wp2_with fail
    go_ret2
    exact ⟨rfl, Below.refl _ _⟩
  · rw [hs] at HV
    cases hk : inB kd 1 4
    · rw [show kosB zs kd = false from by unfold kosB; rw [hs, hk]; rfl, show kosC zs kd = 2 from by unfold kosC; rw [if_pos hs, if_neg (by simp [hk])]]
      rw [hk] at HK
      go_enter Try.func46, Try.ntmps46
      go_wp2_with fail
      refine HV.out.mono ?_
      rintro e w' ⟨rfl, rfl⟩
      go_wp2_with fail
      refine (HK.out _).mono ?_
      rintro e w' ⟨rfl, rfl⟩
      go_wp2_with fail
      go_ret2
      exact ⟨rfl, Below.refl _ _⟩
    · rw [show kosC zs kd = 0 from by unfold kosC; rw [if_pos hs, if_pos hk]]
      rw [hk] at HK
      have HC := Lib.hid (l04Value_any A n cap zs w h hs)
      by_cases ht : scfC zs = 0
      · rw [show kosB zs kd = kosE (vlsT zs).1 (vlsT zs).2.1 kd zs from by unfold kosB; rw [hs, hk, decide_eq_true ht]; rfl]
        rw [(vls_ok ht).2] at HC
        generalize (vlsT zs).1 = x at *
        generalize (vlsT zs).2.1 = y at *
        unfold kosE
        have HD := Lib.hid (fun w => l04Code_any x y kd w)
        have Hh := Lib.hid h
        clear ht hs hk h
        by_cases h0 : cdeK x y kd = 0
        · obtain ⟨e1, e2⟩ := exs_zero h0
          have HE := Lib.hid (fun w => l04Expand_any x y kd w h0)
          rw [h0] at HD
          rw [e1, e2]
          clear e1 e2 h0
          cases ho : exsO x y kd with
          | none =>
            rw [ho] at HE
            clear ho
            rw [show (decide ((if (none : Option (List (Int × Int))).isSome = true then (0 : Int) else 5) = 0) && sameB ((none : Option (List (Int × Int))).getD []) zs) = false from rfl]
            go_enter Try.func46, Try.ntmps46
            go_wp2_with fail
            refine HV.out.mono ?_
            rintro e w' ⟨rfl, rfl⟩
            go_wp2_with fail
            refine (HK.out _).mono ?_
            rintro e w' ⟨rfl, rfl⟩
            go_wp2_with fail
            refine HC.out.mono ?_
            rintro e w1 ⟨rfl, hb1⟩
            go_wp2_with fail
            refine (HD.out _).mono ?_
            rintro e w2 ⟨rfl, hb2⟩
            obtain ⟨hc2, hf2, hs2⟩ := keepc hb2
            have hB2 : Below w.heap.size w w2 := (hb1.alloc hb1.size _).trans (hb2.mono (by have := hb1.size; simp; omega))
            have z0 : w2.cell? ⟨w1.heap.size, 0, none⟩ = some (.int .i64 x) := by rw [hc2 _ _ (by simp)]; exact newcellA rfl rfl
            have z1 : w2.cell? ⟨w1.heap.size, 1, none⟩ = some (.int .i64 y) := by rw [hc2 _ _ (by simp)]; exact newcellA rfl rfl
            clear hb2 hb1 hc2 hf2 hs2
            go_wp2_with fail
            refine (HE.out _).mono ?_
            rintro e w3 ⟨⟨ys, A2, c2, rfl, ho2, hq, hr, hn⟩, hb3⟩
            clear ho2 hq hr
            go_wp2_with fail
            go_ret2
            exact ⟨rfl, hB2.trans (hb3.mono hB2.size)⟩
          | some l =>
            rw [ho] at HE
            clear ho
            rw [show (decide ((if (some l).isSome = true then (0 : Int) else 5) = 0) && sameB ((some l).getD []) zs) = sameB l zs from rfl]
            go_enter Try.func46, Try.ntmps46
            go_wp2_with fail
            refine HV.out.mono ?_
            rintro e w' ⟨rfl, rfl⟩
            go_wp2_with fail
            refine (HK.out _).mono ?_
            rintro e w' ⟨rfl, rfl⟩
            go_wp2_with fail
            refine HC.out.mono ?_
            rintro e w1 ⟨rfl, hb1⟩
            go_wp2_with fail
            refine (HD.out _).mono ?_
            rintro e w2 ⟨rfl, hb2⟩
            obtain ⟨hc2, hf2, hs2⟩ := keepc hb2
            have hB2 : Below w.heap.size w w2 := (hb1.alloc hb1.size _).trans (hb2.mono (by have := hb1.size; simp; omega))
            have z0 : w2.cell? ⟨w1.heap.size, 0, none⟩ = some (.int .i64 x) := by rw [hc2 _ _ (by simp)]; exact newcellA rfl rfl
            have z1 : w2.cell? ⟨w1.heap.size, 1, none⟩ = some (.int .i64 y) := by rw [hc2 _ _ (by simp)]; exact newcellA rfl rfl
            clear hb2 hb1 hc2 hf2 hs2
            go_wp2_with fail
            refine (HE.out _).mono ?_
            rintro e w3 ⟨⟨ys, A2, c2, rfl, ho2, hq, hr, hn⟩, hb3⟩
            obtain rfl := hq l rfl
            have HO := Lib.hid ho2
            have HR := Lib.hid hr
            have hB3 : Below w.heap.size w w3 := hB2.trans (hb3.mono hB2.size)
            clear ho2 hq hr hb3 hB2
            go_wp2_with fail
            refine (l04Same_any A2 _ c2 A n cap ys zs _ (PRow.of_own HO.out (by omega) HR.out) (Hh.out.below hB3)).mono ?_
            rintro e w4 ⟨rfl, m, rfl⟩
            go_wp2_with fail
            go_ret2
            exact ⟨rfl, hB3.trans (below_drewN _ _ _)⟩
        · obtain ⟨e1, e2⟩ := exs_code h0
          rw [e1, e2, decide_eq_false h0, Bool.false_and]
          have hne : (cdeK x y kd != 0) = true := by rw [bne_iff_ne]; exact h0
          generalize cdeK x y kd = k at *
          clear e1 e2 h0
          go_enter Try.func46, Try.ntmps46
          go_wp2_with fail
          refine HV.out.mono ?_
          rintro e w' ⟨rfl, rfl⟩
          go_wp2_with fail
          refine (HK.out _).mono ?_
          rintro e w' ⟨rfl, rfl⟩
          go_wp2_with fail
          refine HC.out.mono ?_
          rintro e w1 ⟨rfl, hb1⟩
          go_wp2_with fail
          refine (HD.out _).mono ?_
          rintro e w2 ⟨rfl, hb2⟩
          have hB2 : Below w.heap.size w w2 := (hb1.alloc hb1.size _).trans (hb2.mono (by have := hb1.size; simp; omega))
          clear hb2 hb1
          go_wp2_with fail
          go_ret2
          exact ⟨rfl, hB2⟩
      · rw [show kosB zs kd = false from by unfold kosB; rw [hs, hk, decide_eq_false ht]; rfl]
        rw [vls_bad ht] at HC
        have hne : (scfC zs != 0) = true := by rw [bne_iff_ne]; exact ht
        generalize scfC zs = k at *
        clear ht hs hk h
        go_enter Try.func46, Try.ntmps46
        go_wp2_with fail
        refine HV.out.mono ?_
        rintro e w' ⟨rfl, rfl⟩
        go_wp2_with fail
        refine (HK.out _).mono ?_
        rintro e w' ⟨rfl, rfl⟩
        go_wp2_with fail
        refine HC.out.mono ?_
        rintro e w1 ⟨rfl, hb1⟩
        go_wp2_with fail
        go_ret2
        exact ⟨rfl, hb1.alloc hb1.size _⟩
set_option maxHeartbeats 1600000 in
theorem fnExactKindOfSigned_walk (w : World) (A : Option Addr) (n cap : Nat) (zs : List (Int × Int)) (h : PRow w A n zs) (kd : Int) (hkd1 : -9223372036854775808 ≤ kd) (hkd2 : kd ≤ 9223372036854775807) :
    Calls Try.prog 11 #[.slice A n cap, .int .i64 kd] w fun e w' => e = .returned (.bool true) ∧ Below w.heap.size w w' := by
  have hbd := h.bd
  by_cases hn : (1048576 : Int) < n
  · go_enter Try.func11, Try.ntmps11
    go_wp2_with fail
    refine (sz_over A n cap 1048576 _ hbd (by omega) (by omega) hn).mono ?_
    rintro e w' ⟨rfl, rfl⟩
    go_wp2_with fail
    go_ret
    exact ⟨rfl, Below.refl _ _⟩
  · have Hr := Lib.hid h.2.2.1
    have hn0 : n ≤ 1048576 := by omega
    have Hh := Lib.hid h
    obtain ⟨x, k, HS, HI⟩ : ∃ (x : Bool) (k : Int), Hid (∀ (A : Option Addr) (cap : Nat) (w : World), PRow w A n zs → Calls Try.prog 46 #[.slice A n cap, .int .i64 kd] w fun e w' => e = .returned (.tuple #[.bool x, .int .i64 k]) ∧ Below w.heap.size w w') ∧ Hid (∀ (A : Option Addr) (cap : Nat) (w : World), PRow w A n zs → n ≤ cap → Calls Try.prog 47 #[.slice A n cap, .int .i64 kd] w fun e w' => e = .returned (.tuple #[.bool x, .int .i64 k]) ∧ Below w.heap.size w w') :=
      ⟨kosB zs kd, kosC zs kd, fun A cap w h => specKos_any A n cap zs kd w h, fun A cap w h hc => implKos_any A n cap zs kd w h hc⟩
    clear h
    go_enter Try.func11, Try.ntmps11
    go_wp2_with fail
    refine (sz_fits A n cap 1048576 _ hbd (by omega) (by omega) (by omega)).mono ?_
    rintro e w' ⟨rfl, rfl⟩
    go_wp2_with fail
    refine (toSignedTermS_any A n cap zs _ Hh.out (by omega)).mono ?_
    rintro e w1 ⟨A1, c1, rfl, o1, hb1⟩
    have O1 := Lib.hid o1
    clear o1
    go_wp2_with fail
    refine (HS.out A1 c1 _ (PRow.of_own O1.out (by omega) Hr.out)).mono ?_
    rintro e w2 ⟨rfl, hd2⟩
    have hb2 : Below w.heap.size w w2 := hb1.trans (hd2.mono hb1.size)
    clear hd2 hb1
    go_wp2_with fail
    refine (toSignedTermS_any A n cap zs _ (Hh.out.below hb2) (by omega)).mono ?_
    rintro e w3 ⟨A2, c2, rfl, oX, hd3⟩
    have hb3 : Below w.heap.size w w3 := hb2.trans (hd3.mono hb2.size)
    have X3 := Lib.hid oX
    clear oX hd3 hb2
    go_wp2_with fail
    refine (HI.out A2 c2 _ (PRow.of_own X3.out (by omega) Hr.out) (own_cap X3.out)).mono ?_
    rintro e w4 ⟨rfl, hd4⟩
    have hb4 : Below w.heap.size w w4 := hb3.trans (hd4.mono hb3.size)
    have X4 := Lib.hid (own_below X3.out hd4)
    clear hd4 hb3
    go_wp2_with fail
    refine (toSignedTermS_any A n cap zs _ (Hh.out.below hb4) (by omega)).mono ?_
    rintro e w6 ⟨A4, c4, rfl, oY, hd6⟩
    have hb6 : Below w.heap.size w w6 := hb4.trans (hd6.mono hb4.size)
    have X6 := Lib.hid (own_below X4.out hd6)
    have Y6 := Lib.hid oY
    clear oY hd6 hb4
    go_wp2_with fail
    refine (eqSignedTermS_same A2 n c2 A4 c4 zs _ (PRow.of_own X6.out (by omega) Hr.out) (PRow.of_own Y6.out (by omega) Hr.out)).mono ?_
    rintro e w7 ⟨rfl, hd7⟩
    go_wp2_with fail
    go_ret
    exact ⟨rfl, hb6.trans (hd7.mono hb6.size)⟩
end Go.Proofs.Ytjkonkoiofhefaa
