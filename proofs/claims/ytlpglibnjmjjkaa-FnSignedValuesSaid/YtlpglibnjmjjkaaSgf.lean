/-
  Drawn terms with signs: contracts of the reference's l04Bent.
  No condition but those of the law's own text.
-/
import Derived.Test.YtlpglibnjmjjkaaProg
import Derived.Test.YtlpglibnjmjjkaaMem
import Derived.Test.YtlpglibnjmjjkaaBasic
import Derived.Test.YtlpglibnjmjjkaaAllk
import Derived.Test.YtlpglibnjmjjkaaFrac
import Derived.Test.YtlpglibnjmjjkaaFrac3
import Derived.Test.YtlpglibnjmjjkaaMarks
import Derived.Test.YtlpglibnjmjjkaaInts
import Derived.Test.YtlpglibnjmjjkaaSig
import Derived.Test.YtlpglibnjmjjkaaSgn
import Derived.Test.YtlpglibnjmjjkaaOwn
import Derived.Test.YtlpglibnjmjjkaaExp
import Derived.Test.YtlpglibnjmjjkaaKnd
import Derived.Test.YtlpglibnjmjjkaaSrc
import Derived.Test.YtlpglibnjmjjkaaDrw
import Derived.Test.YtlpglibnjmjjkaaDrT
import Derived.Test.YtlpglibnjmjjkaaSgd
import Derived.Test.YtlpglibnjmjjkaaSge
import Derived.Handy
import Derived.BigQuiet
import Derived.RegionTactic
import Derived.BigRegion
import Derived.Deep.QuietTactic
import Derived.Deep.RegionHeld3
import Derived.Deep.DrawnRows
import Derived.Deep.AppendLies
namespace Go.Proofs.Ytlpglibnjmjjkaa
open Go.RowKit
set_option linter.unusedVariables false
set_option linter.unusedSimpArgs false
attribute [local go_sem ↓] Go.wp_at_zero Go.wp_at_succ

set_option maxRecDepth 100000 in
set_option maxHeartbeats 6400000 in
theorem l04Bent_any (g : Nat) (A : Option Addr) (n cap K : Nat) (xs : List Int) (w0 w : World) (h : St g A n cap K w0 w) (hx : BRow w0 A n xs) (hk : K ≤ 400) (hg : w0.heap.size ≤ g) :
    Calls Try.prog 22 #[.pointer (some ⟨g, 0, none⟩)] w fun e w' => (∃ (zs : List (Int × Int)) (B : Option Addr) (c : Nat), e = .returned (.slice B zs.length c) ∧ w'.ownsRow w.heap.size 51 2 (.slice B zs.length c) zs.length (prs zs) ∧ (∀ z ∈ zs, Rng z.1 ∧ Rng z.2) ∧ zs.length ≤ 61) ∧ St g A n cap (K + 70) w0 w' ∧ Kg g w w' := by
  have hgl := h.lt
  have hsz := h.2.size
  have NG := Lib.hid (show ∀ k, w.heap.size ≤ k → k ≠ g from fun k hk => by omega)
  obtain ⟨i0, hi, hz0, hz1, hz2⟩ := info_parts infoS
  have HX := Lib.hid hx
  have H := Lib.hid h
  clear hx h
  go_enter Try.func22, Try.ntmps22
  go_wp2_with fail
  refine (l04Draw_any g A n cap K xs w0 w H.out HX.out (by omega) hg).mono ?_
  rintro e w1 ⟨⟨zs, B, c, rfl, ho, hsg⟩, hs1, hk1⟩
  obtain ⟨n1, n2, hr⟩ := sgn_len hsg
  obtain ⟨N, hN⟩ : ∃ N, zs.length = N := ⟨_, rfl⟩
  rw [hN] at ho n1 n2 ⊢
  obtain ⟨gb, rfl, gb1, gb2⟩ := own_some ho (by omega)
  have hgb := NG.out gb gb1
  have HN := Lib.hid hN
  have HR := Lib.hid hr
  have H1 := Lib.hid hs1
  have K1 := Lib.hid hk1
  have O1 := Lib.hid ho
  have hl1 := hk1.1
  clear hs1 hk1 ho hr hN H hsg
  go_wp2_with fail
  refine (pick_any g A n cap (K + 60) xs N w0 w1 H1.out HX.out (by omega) hg (by omega) (by omega)).mono ?_
  rintro e w2 ⟨⟨q, rfl, q0, q1⟩, hs2, hk2⟩
  obtain ⟨j, rfl⟩ := Int.eq_ofNat_of_zero_le q0
  have hj : j < N := by omega
  have H2 := Lib.hid hs2
  have K2 := Lib.hid (K1.out.trans hk2)
  have O2 := Lib.hid (own_kg O1.out hk2 hgl)
  have hl2 : w1.heap.size ≤ w2.heap.size := hk2.1
  clear hs2 hk2 H1 K1 O1
  go_wp2_with fail
  refine (pick_any g A n cap (K + 62) xs 24 w0 w2 H2.out HX.out (by omega) hg (by omega) (by omega)).mono ?_
  rintro e w3 ⟨⟨r, rfl, r0, r1⟩, hs3, hk3⟩
  have hg3 : g < w3.heap.size := hs3.lt
  have H3 := Lib.hid hs3
  have K3 := Lib.hid (K2.out.trans hk3)
  have O3 := Lib.hid (own_kg O2.out hk3 hgl)
  have hl3 : w2.heap.size ≤ w3.heap.size := hk3.1
  clear hs3 hk3 H2 K2 O2
  obtain ⟨p, hp⟩ : ∃ p, zs[j]? = some p := ⟨_, List.getElem?_eq_getElem (by rw [HN.out]; exact hj)⟩
  have HP := Lib.hid hp
  have HPR := Lib.hid (HR.out p (List.mem_of_getElem? hp))
  clear hp
  rcases (by omega : r = 0 ∨ r = 1 ∨ r = 2 ∨ r = 3 ∨ (r ≠ 0 ∧ r ≠ 1 ∧ r ≠ 2 ∧ r ≠ 3)) with rfl | rfl | rfl | rfl | ⟨e0, e1, e2, e3⟩
  · go_wp2_with fail
    refine (among_any g A n cap (K + 64) xs (some ⟨w3.heap.size, 0, none⟩) 4 4 [0, 2, -1, -9223372036854775808] w0 _ (H3.out.alloc _) HX.out (by omega) hg (by omega) (by omega) (irow_new w3 _ _ _ 4 rfl rfl (by omega) (rng_all (by decide))) (fun ad h => by injection h with h; subst h; simp; omega)).mono ?_
    rintro e w4 ⟨⟨z, rfl, _, hz⟩, hs4, hk4⟩
    have hA : Below w3.heap.size w3 (w3.alloc (.cells #[.int .i64 0, .int .i64 2, .int .i64 (-1), .int .i64 (-9223372036854775808)] 2)) := (Below.refl _ _).alloc (Nat.le_refl _) _
    have H4 := Lib.hid hs4
    have K4 := Lib.hid ((K3.out.below hA).trans hk4)
    have O4 := Lib.hid (own_kg (own_below O3.out hA) hk4 hgl)
    have HZ := Lib.hid hz
    clear hs4 hk4 hA H3 K3 O3 hz
    have hc : w4.cell? ⟨gb, j * 2, none⟩ = some (.int .i64 p.1) := by rw [O4.out.cellAt (j * 2) (by omega)]; exact prs_get1 zs j p HP.out
    have hf := O4.out.frozenAt (j * 2)
    have hst := (O4.out.stored (j * 2) (.int .i64 z)).1
    rw [prs_set1 zs j p z HP.out] at hst
    have HS := Lib.hid hst
    clear hst
    go_wp2_with fail
    go_ret
    exact ⟨⟨zs.set j (z, p.2), some ⟨gb, 0, none⟩, c, by rw [List.length_set, HN.out]; rfl, by rw [List.length_set, HN.out]; exact HS.out, rng_set HR.out ⟨HZ.out, HPR.out.2⟩, by rw [List.length_set, HN.out]; omega⟩, (H4.out.set (b := gb) (by omega) (by omega) _ _).mono (by omega), K4.out.other (b := gb) gb1 _ _⟩
  · go_wp2_with fail
    refine (among_any g A n cap (K + 64) xs (some ⟨w3.heap.size, 0, none⟩) 6 6 [-1000000001, -1000000000, 0, 1000000000, 1000000001, -9223372036854775808] w0 _ (H3.out.alloc _) HX.out (by omega) hg (by omega) (by omega) (irow_new w3 _ _ _ 6 rfl rfl (by omega) (rng_all (by decide))) (fun ad h => by injection h with h; subst h; simp; omega)).mono ?_
    rintro e w4 ⟨⟨z, rfl, _, hz⟩, hs4, hk4⟩
    have hA : Below w3.heap.size w3 (w3.alloc (.cells #[.int .i64 (-1000000001), .int .i64 (-1000000000), .int .i64 0, .int .i64 1000000000, .int .i64 1000000001, .int .i64 (-9223372036854775808)] 2)) := (Below.refl _ _).alloc (Nat.le_refl _) _
    have H4 := Lib.hid hs4
    have K4 := Lib.hid ((K3.out.below hA).trans hk4)
    have O4 := Lib.hid (own_kg (own_below O3.out hA) hk4 hgl)
    have HZ := Lib.hid hz
    clear hs4 hk4 hA H3 K3 O3 hz
    have hc : w4.cell? ⟨gb, j * 2 + 1, none⟩ = some (.int .i64 p.2) := by rw [O4.out.cellAt (j * 2 + 1) (by omega)]; exact prs_get2 zs j p HP.out
    have hf := O4.out.frozenAt (j * 2 + 1)
    have hst := (O4.out.stored (j * 2 + 1) (.int .i64 z)).1
    rw [prs_set2 zs j p z HP.out] at hst
    have HS := Lib.hid hst
    clear hst
    go_wp2_with fail
    go_ret
    exact ⟨⟨zs.set j (p.1, z), some ⟨gb, 0, none⟩, c, by rw [List.length_set, HN.out]; rfl, by rw [List.length_set, HN.out]; exact HS.out, rng_set HR.out ⟨HPR.out.1, HZ.out⟩, by rw [List.length_set, HN.out]; omega⟩, (H4.out.set (b := gb) (by omega) (by omega) _ _).mono (by omega), K4.out.other (b := gb) gb1 _ _⟩
  · have ho := World.ownsRow_made (base := w.heap.size) (e := 51) (size := 2) w3 #[] 0 (by omega) (by decide) rfl
    have HO := Lib.hid ho
    clear ho
    go_wp2_with fail
    go_ret
    exact ⟨⟨[], some ⟨w3.heap.size, 0, none⟩, 0, rfl, HO.out, (fun z hz => by cases hz), by simp⟩, (H3.out.alloc _).mono (by omega), K3.out.alloc _⟩
  · have ho := World.ownsRow_made (base := w.heap.size) (e := 51) (size := 2) w3 #[] 0 (by omega) (by decide) rfl
    have HO := Lib.hid ho
    clear ho
    go_wp2_with fail
    refine (pick_any g A n cap (K + 64) xs 2 w0 _ (H3.out.alloc _) HX.out (by omega) hg (by omega) (by omega)).mono ?_
    rintro e w4 ⟨⟨s, rfl, s0, s1⟩, hs4, hk4⟩
    obtain ⟨q, hq⟩ := Int.eq_ofNat_of_zero_le s0
    have hq61 : (60 : Int) + s = ((60 + q : Nat) : Int) := by omega
    have H4 := Lib.hid hs4
    have K4 := Lib.hid ((K3.out.alloc _).trans hk4)
    have O4 := Lib.hid (own_kg HO.out hk4 hgl)
    clear hs4 hk4 H3 K3 O3 HO
    go_wp2_with fail
    go_loopw [5, 6] (fun l u wr => ∃ (k r c : Nat) (B : Option Addr) (fs : List (Int × Int)), l = .slice B k c ∧ u = .int .i64 (r : Int) ∧ k + r ≤ 61 ∧
      wr.ownsRow w.heap.size 51 2 (.slice B k c) k (prs fs) ∧ St g A n cap (K + 66) w0 wr ∧ Kg g w wr ∧ Hid (∀ z ∈ fs, Rng z.1 ∧ Rng z.2)) (fun _ u _ => (intOf u).toNat)
    case atStart => exact ⟨0, 60 + q, 0, _, [], rfl, congrArg (Value.int .i64) (by omega), by omega, O4.out, H4.out, K4.out, (fun z hz => by cases hz)⟩
    case round =>
      obtain ⟨k, r, c', B, fs, rfl, rfl, hkr, hown, hst, hkg, HD⟩ := hrel
      have H10 := Lib.hid hst
      have O10 := Lib.hid hown
      have K10 := Lib.hid hkg
      have l10 := hkg.1
      clear hown hst hkg
      by_cases hr0 : r = 0
      · subst hr0
        have HLn := Lib.hid (own_lenP O10.out)
        go_wp2_with fail
        go_ret
        have hl := HLn.out
        subst hl
        exact ⟨⟨fs, B, c', rfl, O10.out, HD.out, by omega⟩, H10.out.mono (by omega), K10.out⟩
      · have hr1 : (0 : Int) < (r : Int) := by omega
        have LF := Lib.hid O10.out.lt
        go_wp2_with (first | (at_builtin; refine wpList_append_lies _ rfl (.tmp 46) (.tmp 48) 24 rfl w.heap.size 51 i0 (.agg #[.int .i64 0, .int .i64 0]) 2 16 Try.underlying24 hi hz0 hz1 hz2 rfl (by decide) _ k (prs fs) (by rfl) (O10.out.alloc _) ⟨wr.heap.size, 0, none⟩ 1 1 [.int .i64 1, .int .i64 1] (by rfl) rfl ?cells (by simp [Value.oneCell']) (by decide) (by show k + 1 ≤ 9223372036854775807; omega) (by omega) (by simp; omega) (wr.heap.size + 1) (by simp) ?_; rotate_left; intro g cap1 wn hown1 hgrow hat hlt1))
        case cells => exact fun j u hu => newcell (by simp) hu
        rw [show prs fs ++ [Value.int .i64 1, .int .i64 1] = prs (fs ++ [(1, 1)]) from by rw [prs_append]; rfl] at hown1
        go_roundw
        case rel =>
          exact ⟨k + 1, r - 1, _, _, fs ++ [(1, 1)], rfl, by congr 1; omega, by omega, hown1, (H10.out.alloc _).grown hgrow (fun e => NG.out _ (LF.out _ e).1 rfl) (fun k hk => by have := (LF.out k hk).1; omega), (K10.out.alloc _).grown hgrow (fun k hk => (LF.out k hk).1), exp_row HD.out (by unfold Rng; omega) (by unfold Rng; omega)⟩
        case measure => simp [intOf]; omega
  · have b0 : (r == 0) = false := beq_eq_false_iff_ne.2 e0
    have b1 : (r == 1) = false := beq_eq_false_iff_ne.2 e1
    have b2 : (r == 2) = false := beq_eq_false_iff_ne.2 e2
    have b3 : (r == 3) = false := beq_eq_false_iff_ne.2 e3
    go_wp2_with fail
    go_ret
    exact ⟨⟨zs, some ⟨gb, 0, none⟩, c, by rw [HN.out]; rfl, by rw [HN.out]; exact O3.out, HR.out, by rw [HN.out]; omega⟩, H3.out.mono (by omega), K3.out⟩
end Go.Proofs.Ytlpglibnjmjjkaa
