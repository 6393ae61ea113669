/-
  Drawn terms with signs: contracts of the reference's l04Bent.
  The draws of the laws on terms with signs; the laws' comparisons of lists.
  The text of a fraction: contracts of the program's and of the reference's functions; the walk of the law FnExactFractionText.
  Numbers read from texts in the reference: contracts; the walk of the law FnExactReadDecimal.
  Contracts of the tests of lists of terms, in the program and in the reference; the walk of the law FnExactValidTerms.
  The texts of terms: plain laws.
  The texts of terms: contracts of the program's and of the reference's functions; the walk of the law FnExactTermsText.
  Texts cut at a byte: plain laws.
  Texts cut at a byte in the reference; lists of texts: contracts.
  Rows of texts: comparison of equal rows, marks.
  The texts of terms with signs: plain laws.
  Conditions: those of the law's own text, and that the package-level variables hold what the program's text lays in them.
-/
import Derived.Test.YtlpglibnjmjjkaaGreatDoorProg
import Derived.Test.YtlpglibnjmjjkaaGreatDoorS01
import Derived.Test.YtlpglibnjmjjkaaGreatDoorS02
import Derived.Test.YtlpglibnjmjjkaaGreatDoorS03
import Derived.Test.YtlpglibnjmjjkaaGreatDoorS04
import Derived.Handy
import Derived.BigQuiet
import Derived.RegionTactic
import Derived.BigRegion
import Derived.Deep.QuietTactic
import Derived.Deep.RegionHeld3
import Derived.Deep.DrawnRows
import Derived.Deep.AppendLies
import Derived.Laws.Concat
import Derived.Lib.Join
import Derived.Lib.ItoaLen
import Derived.Test.YtlpglibnjmjjkaaGreatDoorShelf
import Derived.Lib.SplitLaws
namespace Go.Proofs.YtlpglibnjmjjkaaGreatDoor
open Go.RowKit
set_option linter.unusedVariables false
set_option linter.unusedSimpArgs false
attribute [local go_sem ↓] Go.wp_at_zero Go.wp_at_succ

set_option maxRecDepth 100000 in
set_option maxHeartbeats 6400000 in
theorem l04Bent_any (g : Nat) (A : Option Addr) (n cap K : Nat) (xs : List Int) (w0 w : World) (h : St g A n cap K w0 w) (hx : BRow w0 A n xs) (hk : K ≤ 400) (hg : w0.heap.size ≤ g) :
    Calls Tryz.prog 64 #[.pointer (some ⟨g, 0, none⟩)] w fun e w' => (∃ (zs : List (Int × Int)) (B : Option Addr) (c : Nat), e = .returned (.slice B zs.length c) ∧ w'.ownsRow w.heap.size 86 2 (.slice B zs.length c) zs.length (prs zs) ∧ (∀ z ∈ zs, Rng z.1 ∧ Rng z.2) ∧ zs.length ≤ 61) ∧ St g A n cap (K + 70) w0 w' ∧ Kg g w w' := by
  have hgl := h.lt
  have hsz := h.2.size
  have NG := Lib.hid (show ∀ k, w.heap.size ≤ k → k ≠ g from fun k hk => by omega)
  obtain ⟨i0, hi, hz0, hz1, hz2⟩ := info_parts infoS
  have HX := Lib.hid hx
  have H := Lib.hid h
  clear hx h
  go_enter Tryz.func64, Tryz.ntmps64
  go_wp2_with fail
  refine (l04Draw_any g A n cap K xs w0 w H.out HX.out (by omega) hg).mono ?_
  rintro e w1 ⟨⟨zs, B, c, rfl, ho, hsg⟩, hs1, hk1⟩
  obtain ⟨n1, n2, hr⟩ := sgn_len hsg
  obtain ⟨N, hN⟩ : ∃ N, zs.length = N := ⟨_, rfl⟩
  rw [hN] at ho n1 n2 ⊢
  obtain ⟨gb, rfl, gb1, gb2⟩ := own_some ho (by omega)
  have hgb := NG.out gb gb1
  have HN := Lib.hid hN
  have HR := Lib.hid hr
  have H1 := Lib.hid hs1
  have K1 := Lib.hid hk1
  have O1 := Lib.hid ho
  have hl1 := hk1.1
  clear hs1 hk1 ho hr hN H hsg
  go_wp2_with fail
  refine (pick_any g A n cap (K + 60) xs N w0 w1 H1.out HX.out (by omega) hg (by omega) (by omega)).mono ?_
  rintro e w2 ⟨⟨q, rfl, q0, q1⟩, hs2, hk2⟩
  obtain ⟨j, rfl⟩ := Int.eq_ofNat_of_zero_le q0
  have hj : j < N := by omega
  have H2 := Lib.hid hs2
  have K2 := Lib.hid (K1.out.trans hk2)
  have O2 := Lib.hid (own_kg O1.out hk2 hgl)
  have hl2 : w1.heap.size ≤ w2.heap.size := hk2.1
  clear hs2 hk2 H1 K1 O1
  go_wp2_with fail
  refine (pick_any g A n cap (K + 62) xs 24 w0 w2 H2.out HX.out (by omega) hg (by omega) (by omega)).mono ?_
  rintro e w3 ⟨⟨r, rfl, r0, r1⟩, hs3, hk3⟩
  have hg3 : g < w3.heap.size := hs3.lt
  have H3 := Lib.hid hs3
  have K3 := Lib.hid (K2.out.trans hk3)
  have O3 := Lib.hid (own_kg O2.out hk3 hgl)
  have hl3 : w2.heap.size ≤ w3.heap.size := hk3.1
  clear hs3 hk3 H2 K2 O2
  obtain ⟨p, hp⟩ : ∃ p, zs[j]? = some p := ⟨_, List.getElem?_eq_getElem (by rw [HN.out]; exact hj)⟩
  have HP := Lib.hid hp
  have HPR := Lib.hid (HR.out p (List.mem_of_getElem? hp))
  clear hp
  rcases (by omega : r = 0 ∨ r = 1 ∨ r = 2 ∨ r = 3 ∨ (r ≠ 0 ∧ r ≠ 1 ∧ r ≠ 2 ∧ r ≠ 3)) with rfl | rfl | rfl | rfl | ⟨e0, e1, e2, e3⟩
  · go_wp2_with fail
    refine (among_any g A n cap (K + 64) xs (some ⟨w3.heap.size, 0, none⟩) 4 4 [0, 2, -1, -9223372036854775808] w0 _ (H3.out.alloc _) HX.out (by omega) hg (by omega) (by omega) (irow_new w3 _ _ _ 4 rfl rfl (by omega) (rng_all (by decide))) (fun ad h => by injection h with h; subst h; simp; omega)).mono ?_
    rintro e w4 ⟨⟨z, rfl, _, hz⟩, hs4, hk4⟩
    have hA : Below w3.heap.size w3 (w3.alloc (.cells #[.int .i64 0, .int .i64 2, .int .i64 (-1), .int .i64 (-9223372036854775808)] 2)) := (Below.refl _ _).alloc (Nat.le_refl _) _
    have H4 := Lib.hid hs4
    have K4 := Lib.hid ((K3.out.below hA).trans hk4)
    have O4 := Lib.hid (own_kg (own_below O3.out hA) hk4 hgl)
    have HZ := Lib.hid hz
    clear hs4 hk4 hA H3 K3 O3 hz
    have hc : w4.cell? ⟨gb, j * 2, none⟩ = some (.int .i64 p.1) := by rw [O4.out.cellAt (j * 2) (by omega)]; exact prs_get1 zs j p HP.out
    have hf := O4.out.frozenAt (j * 2)
    have hst := (O4.out.stored (j * 2) (.int .i64 z)).1
    rw [prs_set1 zs j p z HP.out] at hst
    have HS := Lib.hid hst
    clear hst
    go_wp2_with fail
    go_ret
    exact ⟨⟨zs.set j (z, p.2), some ⟨gb, 0, none⟩, c, by rw [List.length_set, HN.out]; rfl, by rw [List.length_set, HN.out]; exact HS.out, rng_set HR.out ⟨HZ.out, HPR.out.2⟩, by rw [List.length_set, HN.out]; omega⟩, (H4.out.set (b := gb) (by omega) (by omega) _ _).mono (by omega), K4.out.other (b := gb) gb1 _ _⟩
  · go_wp2_with fail
    refine (among_any g A n cap (K + 64) xs (some ⟨w3.heap.size, 0, none⟩) 6 6 [-1000000001, -1000000000, 0, 1000000000, 1000000001, -9223372036854775808] w0 _ (H3.out.alloc _) HX.out (by omega) hg (by omega) (by omega) (irow_new w3 _ _ _ 6 rfl rfl (by omega) (rng_all (by decide))) (fun ad h => by injection h with h; subst h; simp; omega)).mono ?_
    rintro e w4 ⟨⟨z, rfl, _, hz⟩, hs4, hk4⟩
    have hA : Below w3.heap.size w3 (w3.alloc (.cells #[.int .i64 (-1000000001), .int .i64 (-1000000000), .int .i64 0, .int .i64 1000000000, .int .i64 1000000001, .int .i64 (-9223372036854775808)] 2)) := (Below.refl _ _).alloc (Nat.le_refl _) _
    have H4 := Lib.hid hs4
    have K4 := Lib.hid ((K3.out.below hA).trans hk4)
    have O4 := Lib.hid (own_kg (own_below O3.out hA) hk4 hgl)
    have HZ := Lib.hid hz
    clear hs4 hk4 hA H3 K3 O3 hz
    have hc : w4.cell? ⟨gb, j * 2 + 1, none⟩ = some (.int .i64 p.2) := by rw [O4.out.cellAt (j * 2 + 1) (by omega)]; exact prs_get2 zs j p HP.out
    have hf := O4.out.frozenAt (j * 2 + 1)
    have hst := (O4.out.stored (j * 2 + 1) (.int .i64 z)).1
    rw [prs_set2 zs j p z HP.out] at hst
    have HS := Lib.hid hst
    clear hst
    go_wp2_with fail
    go_ret
    exact ⟨⟨zs.set j (p.1, z), some ⟨gb, 0, none⟩, c, by rw [List.length_set, HN.out]; rfl, by rw [List.length_set, HN.out]; exact HS.out, rng_set HR.out ⟨HPR.out.1, HZ.out⟩, by rw [List.length_set, HN.out]; omega⟩, (H4.out.set (b := gb) (by omega) (by omega) _ _).mono (by omega), K4.out.other (b := gb) gb1 _ _⟩
  · have ho := World.ownsRow_made (base := w.heap.size) (e := 86) (size := 2) w3 #[] 0 (by omega) (by decide) rfl
    have HO := Lib.hid ho
    clear ho
    go_wp2_with fail
    go_ret
    exact ⟨⟨[], some ⟨w3.heap.size, 0, none⟩, 0, rfl, HO.out, (fun z hz => by cases hz), by simp⟩, (H3.out.alloc _).mono (by omega), K3.out.alloc _⟩
  · have ho := World.ownsRow_made (base := w.heap.size) (e := 86) (size := 2) w3 #[] 0 (by omega) (by decide) rfl
    have HO := Lib.hid ho
    clear ho
    go_wp2_with fail
    refine (pick_any g A n cap (K + 64) xs 2 w0 _ (H3.out.alloc _) HX.out (by omega) hg (by omega) (by omega)).mono ?_
    rintro e w4 ⟨⟨s, rfl, s0, s1⟩, hs4, hk4⟩
    obtain ⟨q, hq⟩ := Int.eq_ofNat_of_zero_le s0
    have hq61 : (60 : Int) + s = ((60 + q : Nat) : Int) := by omega
    have H4 := Lib.hid hs4
    have K4 := Lib.hid ((K3.out.alloc _).trans hk4)
    have O4 := Lib.hid (own_kg HO.out hk4 hgl)
    clear hs4 hk4 H3 K3 O3 HO
    go_wp2_with fail
    go_loopw [5, 6] (fun l u wr => ∃ (k r c : Nat) (B : Option Addr) (fs : List (Int × Int)), l = .slice B k c ∧ u = .int .i64 (r : Int) ∧ k + r ≤ 61 ∧
      wr.ownsRow w.heap.size 86 2 (.slice B k c) k (prs fs) ∧ St g A n cap (K + 66) w0 wr ∧ Kg g w wr ∧ Hid (∀ z ∈ fs, Rng z.1 ∧ Rng z.2)) (fun _ u _ => (intOf u).toNat)
    case atStart => exact ⟨0, 60 + q, 0, _, [], rfl, congrArg (Value.int .i64) (by omega), by omega, O4.out, H4.out, K4.out, (fun z hz => by cases hz)⟩
    case round =>
      obtain ⟨k, r, c', B, fs, rfl, rfl, hkr, hown, hst, hkg, HD⟩ := hrel
      have H10 := Lib.hid hst
      have O10 := Lib.hid hown
      have K10 := Lib.hid hkg
      have l10 := hkg.1
      clear hown hst hkg
      by_cases hr0 : r = 0
      · subst hr0
        have HLn := Lib.hid (own_lenP O10.out)
        go_wp2_with fail
        go_ret
        have hl := HLn.out
        subst hl
        exact ⟨⟨fs, B, c', rfl, O10.out, HD.out, by omega⟩, H10.out.mono (by omega), K10.out⟩
      · have hr1 : (0 : Int) < (r : Int) := by omega
        have LF := Lib.hid O10.out.lt
        go_wp2_with (first | (at_builtin; refine wpList_append_lies _ rfl (.tmp 46) (.tmp 48) 46 rfl w.heap.size 86 i0 (.agg #[.int .i64 0, .int .i64 0]) 2 16 Tryz.underlying46 hi hz0 hz1 hz2 rfl (by decide) _ k (prs fs) (by rfl) (O10.out.alloc _) ⟨wr.heap.size, 0, none⟩ 1 1 [.int .i64 1, .int .i64 1] (by rfl) rfl ?cells (by simp [Value.oneCell']) (by decide) (by show k + 1 ≤ 9223372036854775807; omega) (by omega) (by simp; omega) (wr.heap.size + 1) (by simp) ?_; rotate_left; intro g cap1 wn hown1 hgrow hat hlt1))
        case cells => exact fun j u hu => newcell (by simp) hu
        rw [show prs fs ++ [Value.int .i64 1, .int .i64 1] = prs (fs ++ [(1, 1)]) from by rw [prs_append]; rfl] at hown1
        go_roundw
        case rel =>
          exact ⟨k + 1, r - 1, _, _, fs ++ [(1, 1)], rfl, by congr 1; omega, by omega, hown1, (H10.out.alloc _).grown hgrow (fun e => NG.out _ (LF.out _ e).1 rfl) (fun k hk => by have := (LF.out k hk).1; omega), (K10.out.alloc _).grown hgrow (fun k hk => (LF.out k hk).1), exp_row HD.out (by unfold Rng; omega) (by unfold Rng; omega)⟩
        case measure => simp [intOf]; omega
  · have b0 : (r == 0) = false := beq_eq_false_iff_ne.2 e0
    have b1 : (r == 1) = false := beq_eq_false_iff_ne.2 e1
    have b2 : (r == 2) = false := beq_eq_false_iff_ne.2 e2
    have b3 : (r == 3) = false := beq_eq_false_iff_ne.2 e3
    go_wp2_with fail
    go_ret
    exact ⟨⟨zs, some ⟨gb, 0, none⟩, c, by rw [HN.out]; rfl, by rw [HN.out]; exact O3.out, HR.out, by rw [HN.out]; omega⟩, H3.out.mono (by omega), K3.out⟩
end Go.Proofs.YtlpglibnjmjjkaaGreatDoor
namespace Go.Proofs.YtlpglibnjmjjkaaGreatDoor
open Go.RowKit
set_option linter.unusedVariables false
set_option linter.unusedSimpArgs false
attribute [local go_sem ↓] Go.wp_at_zero Go.wp_at_succ

theorem Pr.alloc {w : World} {b : Nat} {x y : Int} (h : Pr w b x y) (o : Obj) : Pr (w.alloc o) b x y := h.below ((Below.refl _ _).alloc (Nat.le_refl _) o)
theorem Below.al {B : Nat} {w w' : World} (h : Below B w w') (hs : B ≤ w.heap.size) (o : Obj) : Below B w (w'.alloc o) := h.alloc (Nat.le_trans hs h.size) o
theorem drawTxt_any (A : Option Addr) (n cap : Nat) (xs : List Int) (w : World) (hx : BRow w A n xs) :
    Calls Tryz.prog 24 #[.slice A n cap] w fun e w' => (∃ (zs : List (Int × Int)) (B : Option Addr) (m c : Nat), e = .returned (.slice B m c) ∧ PRow w' B m zs ∧ m ≤ c ∧ m ≤ 61) ∧ Below w.heap.size w w' := by
  have HX := Lib.hid hx
  clear hx
  go_enter Tryz.func24, Tryz.ntmps24
  go_wp2_with fail
  refine (l00From_any A n cap w).mono ?_
  rintro e w1 ⟨rfl, hs1⟩
  have H1 := Lib.hid hs1
  clear hs1
  go_wp2_with fail
  refine (l04Bent_any w.heap.size A n cap 0 xs w w1 H1.out HX.out (by omega) (Nat.le_refl _)).mono ?_
  rintro e w2 ⟨⟨zs, B, c, rfl, ho, hr, hl⟩, hs2, _⟩
  have HO := Lib.hid (PRow.of_own ho (by omega) hr)
  have HC := Lib.hid (own_cap ho)
  have HB := Lib.hid hs2.2
  clear ho hs2
  go_wp2_with fail
  go_ret
  exact ⟨⟨zs, B, zs.length, c, rfl, HO.out, HC.out, hl⟩, HB.out⟩
end Go.Proofs.YtlpglibnjmjjkaaGreatDoor
namespace Go.Proofs.YtlpglibnjmjjkaaGreatDoor
open Go.RowKit
set_option linter.unusedVariables false
set_option linter.unusedSimpArgs false
attribute [local go_sem ↓] Go.wp_at_zero Go.wp_at_succ

theorem decS_size {n : Int} (h0 : -9223372036854775808 ≤ n) (h1 : n ≤ 9223372036854775807) : (decS n).size ≤ 21 := by
  have := Lib.itoa_length_le n h0 h1
  show (Lib.itoa n).toArray.size ≤ 21
  simpa using this
theorem size_app (a b : ByteArray) : (a ++ b).size = a.size + b.size := by simp
/-- The text of a fraction. -/
def frS (p q : Int) : ByteArray := if vfB p q = true then (if q = 1 then decS p else decS p ++ ⟨#[47]⟩ ++ decS q) else ⟨#[]⟩
section
variable {w W w1 : World} {p q : Int}
theorem one_keep (h : W.cell? ⟨w.heap.size, 0, none⟩ = some (.int .i64 p) ∧ W.cell? ⟨w.heap.size, 1, none⟩ = some (.int .i64 q) ∧ Below w.heap.size w W ∧ w.heap.size < W.heap.size) (hb : Below W.heap.size W w1) :
    w1.cell? ⟨w.heap.size, 0, none⟩ = some (.int .i64 p) ∧ w1.cell? ⟨w.heap.size, 1, none⟩ = some (.int .i64 q) ∧ Below w.heap.size w w1 ∧ w.heap.size < w1.heap.size := by
  obtain ⟨h1, h2, h3, h4⟩ := h
  exact ⟨(hb.cell (p := ⟨w.heap.size, 0, none⟩) h4).trans h1, (hb.cell (p := ⟨w.heap.size, 1, none⟩) h4).trans h2, h3.trans (hb.mono h3.size), Nat.lt_of_lt_of_le h4 hb.size⟩
theorem one_drew (h : W.cell? ⟨w.heap.size, 0, none⟩ = some (.int .i64 p) ∧ W.cell? ⟨w.heap.size, 1, none⟩ = some (.int .i64 q) ∧ Below w.heap.size w W ∧ w.heap.size < W.heap.size) :
    W.drew.cell? ⟨w.heap.size, 0, none⟩ = some (.int .i64 p) ∧ W.drew.cell? ⟨w.heap.size, 1, none⟩ = some (.int .i64 q) ∧ Below w.heap.size w W.drew ∧ w.heap.size < W.drew.heap.size := ⟨h.1, h.2.1, h.2.2.1.drew, h.2.2.2⟩
theorem one_start (w : World) (p q : Int) (t : TypeId) : (w.alloc (.cells #[.int .i64 p, .int .i64 q] t)).cell? ⟨w.heap.size, 0, none⟩ = some (.int .i64 p) ∧ (w.alloc (.cells #[.int .i64 p, .int .i64 q] t)).cell? ⟨w.heap.size, 1, none⟩ = some (.int .i64 q) ∧ Below w.heap.size w (w.alloc (.cells #[.int .i64 p, .int .i64 q] t)) ∧ w.heap.size < (w.alloc (.cells #[.int .i64 p, .int .i64 q] t)).heap.size :=
  ⟨newcellA rfl rfl, newcellA rfl rfl, (Below.refl _ _).alloc (Nat.le_refl _) _, by simp⟩
theorem one_below (h : W.cell? ⟨w.heap.size, 0, none⟩ = some (.int .i64 p) ∧ W.cell? ⟨w.heap.size, 1, none⟩ = some (.int .i64 q) ∧ Below w.heap.size w W ∧ w.heap.size < W.heap.size) : Below w.heap.size w W := h.2.2.1
end

end Go.Proofs.YtlpglibnjmjjkaaGreatDoor
namespace Go.Proofs.YtlpglibnjmjjkaaGreatDoor
open Go.RowKit
set_option linter.unusedVariables false
set_option linter.unusedSimpArgs false
attribute [local go_sem ↓] Go.wp_at_zero Go.wp_at_succ

def dgB (c : Int) : Bool := decide (48 ≤ c ∧ c ≤ 57)
theorem dgB_t {c : Int} (h1 : 48 ≤ c) (h2 : c ≤ 57) : dgB c = true := decide_eq_true ⟨h1, h2⟩
theorem dgB_f {c : Int} (h : c < 48 ∨ 57 < c) : dgB c = false := decide_eq_false (by omega)
theorem l01Digit_any (c : Int) (w : World) : Calls Tryz.prog 110 #[.int .u8 c] w fun e w' => e = .returned (.bool (dgB c)) ∧ w = w' := by
  by_cases h1 : 48 ≤ c
  · by_cases h2 : c ≤ 57
    · rw [dgB_t h1 h2]
      go_enter Tryz.func110, Tryz.ntmps110
      go_wp2_with fail
      go_ret
      exact ⟨rfl, rfl⟩
    · rw [dgB_f (by omega)]
      go_enter Tryz.func110, Tryz.ntmps110
      go_wp2_with fail
      go_ret
      exact ⟨rfl, rfl⟩
  · rw [dgB_f (by omega)]
    have h2 : decide (48 ≤ c) = false := decide_eq_false h1
    go_enter Tryz.func110, Tryz.ntmps110
    go_wp2_with fail
    go_ret
    exact ⟨rfl, rfl⟩
theorem take_snocB (s : ByteArray) (k : Nat) (h : k < s.size) : s.data.toList.take (k + 1) = s.data.toList.take k ++ [s[k]] := by
  rw [List.take_succ_eq_append_getElem (by simpa using h)]; rfl
theorem len_size (s : ByteArray) : s.data.toList.length = s.size := by simp
theorem ext_one (s : ByteArray) : (s.extract 1 s.size).data.toList = s.data.toList.drop 1 := by
  simp
  rw [List.take_of_length_le (by simp)]
theorem valL_bd {l : List UInt8} (h : allD l = true) (hl : l.length ≤ 18) : valL 0 l < 1000000000000000000 := by
  have := valL_lt l 0 h
  have h3 : 10 ^ l.length ≤ 10 ^ 18 := Nat.pow_le_pow_right (by omega) hl
  have h4 : (10 : Nat) ^ 18 = 1000000000000000000 := by decide
  omega
theorem valL_bd17 {l : List UInt8} (h : allD l = true) (hl : l.length ≤ 17) : valL 0 l < 100000000000000000 := by
  have := valL_lt l 0 h
  have h3 : 10 ^ l.length ≤ 10 ^ 17 := Nat.pow_le_pow_right (by omega) hl
  have h4 : (10 : Nat) ^ 17 = 100000000000000000 := by decide
  omega
theorem allD_take {l : List UInt8} {k : Nat} {c : UInt8} (h : l[k]? = some c) (hd : isDg c = false) : allD l = false := by
  unfold allD
  rw [List.all_eq_false]
  exact ⟨c, List.mem_of_getElem? h, by rw [hd]; decide⟩
theorem dgB_u8 (c : UInt8) : dgB (c.toNat : Int) = isDg c := by
  unfold dgB isDg
  congr 1
  apply propext
  omega
theorem rd_fin {s : ByteArray} (hl : (tmL s.data.toList).length ≤ 18) : (decS (valI s.data.toList) = s ∧ rdT s = (valI s.data.toList, true)) ∨ (decS (valI s.data.toList) ≠ s ∧ rdT s = (0, false)) := by
  have h := rd_spec hl
  by_cases hq : Lib.itoa (valI s.data.toList) = s.data.toList
  · left
    rw [decide_eq_true hq] at h
    exact ⟨decS_eq.2 hq, rdT_t h⟩
  · right
    rw [decide_eq_false hq] at h
    exact ⟨fun e => hq (decS_eq.1 e), rdT_f h⟩
theorem rd_bad {s : ByteArray} (h : allD (tmL s.data.toList) = false) : rdT s = (0, false) := rdT_f (by
  cases hb : rdB s.data.toList
  · rfl
  · have := (rdB_form hb).2.2.1
    rw [h] at this; cases this)
theorem rd_none {s : ByteArray} (h : tmL s.data.toList = [] ∨ 18 < (tmL s.data.toList).length) : rdT s = (0, false) := rdT_f (by
  cases hb : rdB s.data.toList
  · rfl
  · rcases h with h | h
    · exact absurd h (rdB_form hb).2.2.2.1
    · have := (rdB_iff.1 hb).1; omega)
theorem ng_head {s : ByteArray} (h0 : 0 < s.size) : ((s[0].toNat : Int) == 45) = ngL s.data.toList := by
  have : s.data.toList[0]? = some s[0] := by rw [List.getElem?_eq_getElem (by rw [len_size]; exact h0)]; rfl
  cases hsl : s.data.toList with
  | nil => rw [hsl] at this; cases this
  | cons c r =>
    rw [hsl] at this
    simp at this
    rw [← this]
    unfold ngL
    rw [Bool.eq_iff_iff, beq_iff_eq, decide_eq_true_iff]
    omega
theorem tm_ng {s : ByteArray} (h : ngL s.data.toList = true) : tmL s.data.toList = s.data.toList.drop 1 ∧ 0 < s.size := by
  cases hsl : s.data.toList with
  | nil => rw [hsl] at h; cases h
  | cons c r =>
    rw [hsl] at h
    refine ⟨if_pos (of_decide_eq_true (h : decide _ = true)), ?_⟩
    rw [← len_size, hsl]; simp
theorem tm_ps {s : ByteArray} (h : ngL s.data.toList = false) : tmL s.data.toList = s.data.toList := by
  cases hsl : s.data.toList with
  | nil => rfl
  | cons c r =>
    rw [hsl] at h
    exact if_neg (of_decide_eq_false (h : decide _ = false))
set_option maxRecDepth 100000 in
set_option maxHeartbeats 3200000 in
theorem l01Number_any (s : ByteArray) (w : World) (hs : s.size ≤ 1048576) :
    Calls Tryz.prog 75 #[.string s] w fun e w' => e = .returned (.tuple #[.int .i64 (rdT s).1, .bool (rdT s).2]) ∧ Below w.heap.size w w' := by
  by_cases hz : s.size = 0
  · have hse : s.toList = [] := by rw [ByteArray.toList_eq]; exact List.eq_nil_of_length_eq_zero (by rw [len_size]; exact hz)
    rw [rd_none (.inl (by rw [← ByteArray.toList_eq, hse]; rfl))]
    go_enter Tryz.func75, Tryz.ntmps75
    go_wp2_with fail
    go_ret2
    exact ⟨rfl, Below.refl _ _⟩
  · have h0 : 0 < s.size := by omega
    have hse : (s.toList == []) = false := by rw [ByteArray.toList_eq]; exact beq_eq_false_iff_ne.2 (fun e => hz (by rw [← len_size, e]; rfl))
    have hhd := ng_head h0
    clear hz
    cases hng : ngL s.data.toList
    · have htm : (s).data.toList = tmL s.data.toList := by first | exact (tm_ps hng).symm | (rw [(tm_ng hng).1]; exact ext_one s)
      have hlt : (s).data.toList.length = s.size := by first | exact len_size s | rw [ext_one, List.length_drop, len_size]
      rw [hng] at hhd
      by_cases hl18 : s.size ≤ 18
      · by_cases hl1 : 1 ≤ s.size
        · have hval : valI s.data.toList = if false = true then -(valL 0 (s).data.toList : Int) else (valL 0 (s).data.toList : Int) := by unfold valI; rw [← htm, hng]; try simp
          have hfin := rd_fin (s := s) (by rw [← htm, hlt]; exact hl18)
          have HBad := Lib.hid (fun h => rd_bad (s := s) h)
          rw [← htm] at HBad
          obtain ⟨R, hR⟩ : ∃ R, rdT s = R := ⟨_, rfl⟩
          rw [hR] at hfin HBad ⊢
          have HF := Lib.hid hfin
          have HV := Lib.hid hval
          have HB := Lib.hid HBad
          have HLt := Lib.hid hlt
          have HG := Lib.hid hng
          clear hfin hval hlt htm hR HBad hng
          go_enter Tryz.func75, Tryz.ntmps75
          go_wp2_with fail
          have ht1 : (s).size = s.size := (len_size _).symm.trans HLt.out
          have ht2 : (s).size ≤ 18 := by rw [ht1]; exact hl18
          have ht3 : 1 ≤ (s).size := by rw [ht1]; exact hl1
          try have ht4 : (s).size < s.size := by omega
          clear ht1 HLt
          skip
          go_loop [5, 6] (fun a i => ∃ (k : Nat) (x : Int), k ≤ (s).size ∧ i = .int .i64 k ∧ a = .int .i64 x ∧ 0 ≤ x ∧ x ≤ 999999999999999999 ∧ Hid (allD ((s).data.toList.take k) = true ∧ x = (valL 0 ((s).data.toList.take k) : Nat))) (fun _ i => (s).size - (intOf i).toNat)
          case atStart => exact ⟨0, 0, Nat.zero_le _, rfl, rfl, by omega, by omega, by show _ ∧ _; exact ⟨rfl, rfl⟩⟩
          case round =>
            obtain ⟨k, x, hk, rfl, rfl, x0, x1, HA⟩ := hrel
            by_cases hkt : k < (s).size
            · have hsn := take_snocB s k hkt
              have hgk : (s).data.toList[k]? = some (s)[k] := by rw [List.getElem?_eq_getElem (by rw [len_size]; exact hkt)]; rfl
              have HC := Lib.hid (fun W => l01Digit_any ((s)[k].toNat : Int) W)
              rw [dgB_u8] at HC
              cases hdg : isDg (s)[k]
              · rw [hdg] at HC
                have hbad := HB.out (allD_take hgk hdg)
                obtain rfl := hbad
                clear hgk hsn hdg HB HF
                go_wp2_with fail
                refine (HC.out _).mono ?_
                rintro e w' ⟨rfl, rfl⟩
                go_wp2_with fail
                go_ret2
                exact ⟨rfl, Below.refl _ _⟩
              · rw [hdg] at HC
                have hd2 := of_decide_eq_true (hdg : decide _ = true)
                obtain ⟨hd3, hd4⟩ := hd2
                have hx17 : x ≤ 99999999999999999 := by
                  have := valL_bd17 HA.out.1 (by rw [List.length_take, len_size]; omega)
                  have := HA.out.2
                  omega
                have HN := Lib.hid (show allD ((s).data.toList.take (k + 1)) = true ∧ 10 * x + (((s)[k].toNat : Int) - 48) = (valL 0 ((s).data.toList.take (k + 1)) : Nat) by
                  refine ⟨by rw [hsn, allD_app, HA.out.1, allD_cons, hdg]; rfl, ?_⟩
                  have e : valL 0 ((s).data.toList.take (k + 1)) = valL 0 ((s).data.toList.take k) * 10 + ((s)[k].toNat - 48) := by rw [hsn, valL_app]; rfl
                  have := HA.out.2
                  omega)
                clear hgk hsn hdg HB HF
                have hd5 : (48 : Int) ≤ ((s)[k].toNat : Int) := by omega
                have hd6 : ((s)[k].toNat : Int) ≤ 57 := by omega
                go_wp2_with fail
                refine (HC.out _).mono ?_
                rintro e w' ⟨rfl, rfl⟩
                go_wp2_with fail
                go_round
                case rel => exact ⟨k + 1, 10 * x + (((s)[k].toNat : Int) - 48), by omega, by go_num, rfl, by omega, by omega, HN.out⟩
                case measure => simp [intOf]; omega
            · have hkt2 : (s).size ≤ k := by omega
              have HV2 := Lib.hid (show valI s.data.toList = if false = true then -x else x by
                have h := HA.out.2
                rw [List.take_of_length_le (by rw [len_size]; exact hkt2)] at h
                have e := HV.out
                rw [h]
                simpa using e)
              have hff := HF.out
              rw [HV2.out] at hff
              simp only [if_true, if_false, Bool.false_eq_true] at hff
              clear HB HF HV HA HV2
              rcases hff with ⟨hq, hr⟩ | ⟨hq, hr⟩
              all_goals
                subst hr
                have htl := hq
                first | replace htl := tl_t hq | replace htl := tl_f hq
                clear hq
                go_wp2_with fail
                refine (l01Dec_any _ _ (by omega) (by omega)).mono ?_
                rintro e w1 ⟨rfl, hb⟩
                have HBw := Lib.hid hb
                clear hb
                go_wp2_with fail
                go_ret2
                exact ⟨rfl, HBw.out⟩
        · first
            | (exfalso; omega)
            | (rw [rd_none (.inl (List.eq_nil_of_length_eq_zero (by rw [← htm, hlt]; omega)))]
               clear htm hlt hng
               go_enter Tryz.func75, Tryz.ntmps75
               go_wp2_with fail
               go_ret2
               exact ⟨rfl, Below.refl _ _⟩)
      · rw [rd_none (.inr (by rw [← htm, hlt]; omega))]
        clear htm hlt hng
        go_enter Tryz.func75, Tryz.ntmps75
        go_wp2_with fail
        go_ret2
        exact ⟨rfl, Below.refl _ _⟩
    · have htm : ((s.extract 1 s.size)).data.toList = tmL s.data.toList := by first | exact (tm_ps hng).symm | (rw [(tm_ng hng).1]; exact ext_one s)
      have hlt : ((s.extract 1 s.size)).data.toList.length = (s.size - 1) := by first | exact len_size s | rw [ext_one, List.length_drop, len_size]
      rw [hng] at hhd
      by_cases hl18 : (s.size - 1) ≤ 18
      · by_cases hl1 : 1 ≤ (s.size - 1)
        · have hval : valI s.data.toList = if true = true then -(valL 0 ((s.extract 1 s.size)).data.toList : Int) else (valL 0 ((s.extract 1 s.size)).data.toList : Int) := by unfold valI; rw [← htm, hng]; try simp
          have hfin := rd_fin (s := s) (by rw [← htm, hlt]; exact hl18)
          have HBad := Lib.hid (fun h => rd_bad (s := s) h)
          rw [← htm] at HBad
          obtain ⟨R, hR⟩ : ∃ R, rdT s = R := ⟨_, rfl⟩
          rw [hR] at hfin HBad ⊢
          have HF := Lib.hid hfin
          have HV := Lib.hid hval
          have HB := Lib.hid HBad
          have HLt := Lib.hid hlt
          have HG := Lib.hid hng
          clear hfin hval hlt htm hR HBad hng
          go_enter Tryz.func75, Tryz.ntmps75
          go_wp2_with fail
          have ht1 : ((s.extract 1 s.size)).size = (s.size - 1) := (len_size _).symm.trans HLt.out
          have ht2 : ((s.extract 1 s.size)).size ≤ 18 := by rw [ht1]; exact hl18
          have ht3 : 1 ≤ ((s.extract 1 s.size)).size := by rw [ht1]; exact hl1
          try have ht4 : ((s.extract 1 s.size)).size < s.size := by omega
          clear ht1 HLt
          generalize s.extract 1 s.size = t at *
          go_loop [5, 6] (fun a i => ∃ (k : Nat) (x : Int), k ≤ (t).size ∧ i = .int .i64 k ∧ a = .int .i64 x ∧ 0 ≤ x ∧ x ≤ 999999999999999999 ∧ Hid (allD ((t).data.toList.take k) = true ∧ x = (valL 0 ((t).data.toList.take k) : Nat))) (fun _ i => (t).size - (intOf i).toNat)
          case atStart => exact ⟨0, 0, Nat.zero_le _, rfl, rfl, by omega, by omega, by show _ ∧ _; exact ⟨rfl, rfl⟩⟩
          case round =>
            obtain ⟨k, x, hk, rfl, rfl, x0, x1, HA⟩ := hrel
            by_cases hkt : k < (t).size
            · have hsn := take_snocB t k hkt
              have hgk : (t).data.toList[k]? = some (t)[k] := by rw [List.getElem?_eq_getElem (by rw [len_size]; exact hkt)]; rfl
              have HC := Lib.hid (fun W => l01Digit_any ((t)[k].toNat : Int) W)
              rw [dgB_u8] at HC
              cases hdg : isDg (t)[k]
              · rw [hdg] at HC
                have hbad := HB.out (allD_take hgk hdg)
                obtain rfl := hbad
                clear hgk hsn hdg HB HF
                go_wp2_with fail
                refine (HC.out _).mono ?_
                rintro e w' ⟨rfl, rfl⟩
                go_wp2_with fail
                go_ret2
                exact ⟨rfl, Below.refl _ _⟩
              · rw [hdg] at HC
                have hd2 := of_decide_eq_true (hdg : decide _ = true)
                obtain ⟨hd3, hd4⟩ := hd2
                have hx17 : x ≤ 99999999999999999 := by
                  have := valL_bd17 HA.out.1 (by rw [List.length_take, len_size]; omega)
                  have := HA.out.2
                  omega
                have HN := Lib.hid (show allD ((t).data.toList.take (k + 1)) = true ∧ 10 * x + (((t)[k].toNat : Int) - 48) = (valL 0 ((t).data.toList.take (k + 1)) : Nat) by
                  refine ⟨by rw [hsn, allD_app, HA.out.1, allD_cons, hdg]; rfl, ?_⟩
                  have e : valL 0 ((t).data.toList.take (k + 1)) = valL 0 ((t).data.toList.take k) * 10 + ((t)[k].toNat - 48) := by rw [hsn, valL_app]; rfl
                  have := HA.out.2
                  omega)
                clear hgk hsn hdg HB HF
                have hd5 : (48 : Int) ≤ ((t)[k].toNat : Int) := by omega
                have hd6 : ((t)[k].toNat : Int) ≤ 57 := by omega
                go_wp2_with fail
                refine (HC.out _).mono ?_
                rintro e w' ⟨rfl, rfl⟩
                go_wp2_with fail
                go_round
                case rel => exact ⟨k + 1, 10 * x + (((t)[k].toNat : Int) - 48), by omega, by go_num, rfl, by omega, by omega, HN.out⟩
                case measure => simp [intOf]; omega
            · have hkt2 : (t).size ≤ k := by omega
              have HV2 := Lib.hid (show valI s.data.toList = if true = true then -x else x by
                have h := HA.out.2
                rw [List.take_of_length_le (by rw [len_size]; exact hkt2)] at h
                have e := HV.out
                rw [h]
                simpa using e)
              have hff := HF.out
              rw [HV2.out] at hff
              simp only [if_true, if_false, Bool.false_eq_true] at hff
              clear HB HF HV HA HV2
              rcases hff with ⟨hq, hr⟩ | ⟨hq, hr⟩
              all_goals
                subst hr
                have htl := hq
                first | replace htl := tl_t hq | replace htl := tl_f hq
                clear hq
                go_wp2_with fail
                refine (l01Dec_any _ _ (by omega) (by omega)).mono ?_
                rintro e w1 ⟨rfl, hb⟩
                have HBw := Lib.hid hb
                clear hb
                go_wp2_with fail
                go_ret2
                exact ⟨rfl, HBw.out⟩
        · first
            | (exfalso; omega)
            | (rw [rd_none (.inl (List.eq_nil_of_length_eq_zero (by rw [← htm, hlt]; omega)))]
               clear htm hlt hng
               go_enter Tryz.func75, Tryz.ntmps75
               go_wp2_with fail
               go_ret2
               exact ⟨rfl, Below.refl _ _⟩)
      · rw [rd_none (.inr (by rw [← htm, hlt]; omega))]
        clear htm hlt hng
        go_enter Tryz.func75, Tryz.ntmps75
        go_wp2_with fail
        go_ret2
        exact ⟨rfl, Below.refl _ _⟩
end Go.Proofs.YtlpglibnjmjjkaaGreatDoor
namespace Go.Proofs.YtlpglibnjmjjkaaGreatDoor
open Go.RowKit
set_option linter.unusedVariables false

/-- A positive term. -/
def posE (k : Nat) (z : Int) : Bool := inB z 1 1000000000
/-- What the search for a bad element hands back: -1 if there is none, else a place. -/
def Found (V : Bool) (w : World) (e : Ending) (w' : World) : Prop := ∃ r : Int, e = .returned (.int .i64 r) ∧ (V = true → r = -1) ∧ (V = false → 0 ≤ r) ∧ w = w'

theorem vt_closure (z : Int) (w : World) : Calls Tryz.prog 89 #[.int .i64 z] w fun e w' => e = .returned (.bool (!inB z 1 1000000000)) ∧ w = w' := by
  go_enter Tryz.func89, Tryz.ntmps89
  go_wp2_with (go_at_call 78; refine (within_any _ _ _ _).mono ?_; rintro e w1 ⟨rfl, rfl⟩)
  go_ret
  exact ⟨rfl, rfl⟩
theorem vt_index (A : Option Addr) (n cap : Nat) (zs : List Int) (w : World) (h : IRow w A n zs) :
    Calls Tryz.prog 115 #[.slice A n cap, .func (.func 89) #[] #[]] w (Found (allK posE 0 zs) w) := by
  have hbd := h.bd
  have Hl := Lib.hid h.len
  have hw := Lib.hid h; clear h
  go_enter Tryz.func115, Tryz.ntmps115
  go_wp2
  go_loop [5, 8] (fun j i => ∃ k : Nat, k ≤ n ∧ i = .int .i64 k ∧ Hid (Upto posE zs k)) (fun _ i => n - (intOf i).toNat)
  case atStart => exact ⟨0, Nat.zero_le _, rfl, Upto.zero _ _⟩
  case round =>
    obtain ⟨k, hk, rfl, HU⟩ := hrel
    by_cases hlt : k < n
    · obtain ⟨ad, z, rfl, hz, z1, z2, hc⟩ := hw.out.at_ hlt
      have HZ := Lib.hid hz; clear hz
      cases hb : inB z 1 1000000000
      · go_wp2_with (go_at_call 89; refine (vt_closure _ _).mono ?_; rintro e w1 ⟨rfl, rfl⟩)
        go_ret
        exact ⟨_, rfl, (fun hV => by rw [allK_f posE zs 0 k z HZ.out (by rw [Nat.zero_add]; exact hb)] at hV; cases hV), (fun _ => by omega), rfl⟩
      · go_wp2_with (go_at_call 89; refine (vt_closure _ _).mono ?_; rintro e w1 ⟨rfl, rfl⟩)
        go_round
        case rel => exact ⟨k + 1, by omega, by go_num, HU.out.step HZ.out hb⟩
        case measure => simp [intOf]; omega
    · obtain rfl : n = k := by omega
      go_wp2
      go_ret
      have hV := HU.out.all (by have := Hl.out; omega)
      exact ⟨_, rfl, (fun _ => rfl), (fun h => (by rw [hV] at h; cases h)), rfl⟩
theorem vt_contains (A : Option Addr) (n cap : Nat) (zs : List Int) (w : World) (h : IRow w A n zs) :
    Calls Tryz.prog 88 #[.slice A n cap, .func (.func 89) #[] #[]] w fun e w' => e = .returned (.bool (!allK posE 0 zs)) ∧ w = w' := by
  cases hV : allK posE 0 zs
  · go_enter Tryz.func88, Tryz.ntmps88
    go_wp2_with fail
    refine (vt_index A n cap zs _ h).mono ?_
    rintro e w1 ⟨r, rfl, _, h2, rfl⟩
    have h3 := h2 hV
    clear h2
    go_wp2_with fail
    go_ret
    exact ⟨rfl, rfl⟩
  · go_enter Tryz.func88, Tryz.ntmps88
    go_wp2_with fail
    refine (vt_index A n cap zs _ h).mono ?_
    rintro e w1 ⟨r, rfl, h1, _, rfl⟩
    have h3 := h1 hV
    subst h3
    clear h1
    go_wp2_with fail
    go_ret
    exact ⟨rfl, rfl⟩

/-- The row behind its first element. -/
theorem IRow.tail {w : World} {ad : Addr} {n : Nat} {zs : List Int} (h : IRow w (some ad) n zs) (hn : 1 ≤ n) (c : Nat) (hc : n ≤ c) : IRow w (if c = 1 then some ad else some (ad.add 1)) (n - 1) zs.tail := by
  refine ⟨by rw [List.length_tail, h.1], by have := h.2.1; omega, fun z hz => h.2.2.1 z (List.mem_of_mem_tail hz), ?_⟩
  have hd := h.2.2.2.drop_ 1
  rw [← List.map_drop, List.drop_one] at hd
  split
  · have : zs.tail = [] := List.eq_nil_of_length_eq_zero (by rw [List.length_tail, h.1]; omega)
    rw [this]
    exact Rd.nil
  · exact hd

set_option maxHeartbeats 1000000 in
theorem validTerms_any (A : Option Addr) (n cap : Nat) (zs : List Int) (w : World) (h : IRow w A n zs) (hcap : n ≤ cap) :
    Calls Tryz.prog 44 #[.slice A n cap] w fun e w' => e = .returned (.bool (trmB zs)) ∧ w = w' := by
  have hbd := h.bd
  have hlen := h.len
  by_cases hn : 1 ≤ n ∧ n ≤ 60
  · obtain ⟨hn1, hn2⟩ := hn
    obtain ⟨ad, z, rfl, hz, z1, z2, hc⟩ := h.at_ (k := 0) (by omega)
    rw [addr_nil] at hc
    have hi : inB (n : Int) 1 60 = true := inB_t (by omega) (by omega)
    cases hb : inB z (-1000000000) 1000000000
    · rw [show trmB zs = false from by unfold trmB; rw [allK_f trmE zs 0 0 z hz hb]; simp]
      clear hz hlen
      go_enter Tryz.func44, Tryz.ntmps44
      go_wp2_with (first | (go_at_call 87; go_in) | (go_at_call 78; refine (within_any _ _ _ _).mono ?_; rintro e w1 ⟨rfl, rfl⟩))
      go_ret
      exact ⟨rfl, rfl⟩
    · have ht := h.tail hn1 cap hcap
      have hv : trmB zs = allK posE 0 zs.tail := by
        unfold trmB
        rw [hlen, hi, Bool.true_and]
        match zs, hz with
        | y :: r, hz =>
          simp at hz; subst hz
          show (trmE 0 y && allK trmE 1 r) = allK posE 0 r
          rw [show trmE 0 y = true from hb, Bool.true_and]
          cases hp : allK posE 0 r
          · cases ht : allK trmE 1 r
            · rfl
            · exfalso
              have : allK posE 0 r = true := allK_t posE r 0 fun k z hk => by
                have := allK_at trmE r 1 k z ht hk
                unfold trmE at this
                rw [if_neg (by omega)] at this
                exact this
              rw [this] at hp; cases hp
          · exact allK_t trmE r 1 fun k z hk => by
              have := allK_at posE r 0 k z hp hk
              unfold trmE
              rw [if_neg (by omega)]
              exact this
      rw [hv]
      clear hv hz hlen h
      by_cases hc1 : cap = 1
      · obtain rfl : n = 1 := by omega
        subst hc1
        have ht' : IRow w (some ad) 0 zs.tail := by simpa using ht
        clear ht
        go_enter Tryz.func44, Tryz.ntmps44
        go_wp2_with (first | (go_at_call 87; go_in) | (go_at_call 78; refine (within_any _ _ _ _).mono ?_; rintro e w1 ⟨rfl, rfl⟩) | (go_at_call 88; refine (vt_contains (some ad) 0 _ zs.tail _ ht').mono ?_; rintro e w1 ⟨rfl, rfl⟩))
        go_ret
        exact ⟨ret_bool (by simp), rfl⟩
      · have ht' : IRow w (some ⟨ad.block, ad.off + 1, none⟩) (n - 1) zs.tail := by rw [if_neg hc1] at ht; exact ht
        clear ht
        go_enter Tryz.func44, Tryz.ntmps44
        go_wp2_with (first | (go_at_call 87; go_in) | (go_at_call 78; refine (within_any _ _ _ _).mono ?_; rintro e w1 ⟨rfl, rfl⟩) | (go_at_call 88; refine (vt_contains (some ⟨ad.block, ad.off + 1, none⟩) (n - 1) _ zs.tail _ ht').mono ?_; rintro e w1 ⟨rfl, rfl⟩))
        go_ret
        exact ⟨ret_bool (by simp), rfl⟩
  · rw [show trmB zs = false from by unfold trmB; rw [hlen, inB_f (by omega)]; rfl]
    have hi : inB (n : Int) 1 60 = false := inB_f (by omega)
    clear hn hlen
    go_enter Tryz.func44, Tryz.ntmps44
    go_wp2_with (first | (go_at_call 87; go_in) | (go_at_call 78; refine (within_any _ _ _ _).mono ?_; rintro e w1 ⟨rfl, rfl⟩))
    go_ret
    exact ⟨rfl, rfl⟩

set_option maxHeartbeats 1600000 in
theorem l03Ok_any (A : Option Addr) (n cap : Nat) (zs : List Int) (w : World) (h : IRow w A n zs) :
    Calls Tryz.prog 43 #[.slice A n cap] w fun e w' => e = .returned (.bool (trmB zs)) ∧ w = w' := by
  have hbd := h.bd
  have hlen := h.len
  have Hl := Lib.hid hlen
  have hp : trmB zs = (inB (n : Int) 1 60 && allK trmE 0 zs) := by unfold trmB; rw [hlen]
  rw [hp]; clear hp
  clear hlen
  have hw := Lib.hid h; clear h
  obtain ⟨V, hV⟩ : ∃ V, V = allK trmE 0 zs := ⟨_, rfl⟩
  rw [← hV]
  have HV := Lib.hid hV; clear hV
  go_enter Tryz.func43, Tryz.ntmps43
  go_wp2
  go_loop [3] (fun i => ∃ k : Nat, k ≤ n ∧ i = .int .i64 k ∧ Hid (Upto trmE zs k)) (fun i => n - (intOf i).toNat)
  case atStart => exact ⟨0, Nat.zero_le _, rfl, Upto.zero _ _⟩
  case round =>
    obtain ⟨k, hk, rfl, HU⟩ := hrel
    by_cases hlt : k < n
    · obtain ⟨ad, z, rfl, hz, z1, z2, hc⟩ := hw.out.at_ hlt
      have HZ := Lib.hid hz; clear hz
      rcases (by omega : k ≤ 0 ∨ 1 ≤ k) with a1 | a1
      · have he : trmE k z = inB z (-1000000000) 1000000000 := by unfold trmE; rw [(if_pos (by omega))]
        have He := Lib.hid he; clear he
        try have hc0 : w.cell? ad = some (.int .i64 z) := by (have h0 : k = 0 := by omega); rw [h0, addr_nil] at hc; exact hc
        cases hb : inB z (-1000000000) 1000000000
        · go_wp2_with (go_at_call 86; refine (l00In_any _ _ _ _).mono ?_; rintro e w1 ⟨rfl, rfl⟩)
          go_ret
          exact ⟨ret_bool (by rw [HV.out, allK_f _ zs 0 k z HZ.out (by rw [Nat.zero_add, He.out]; exact hb)]; simp), rfl⟩
        · go_wp2_with (go_at_call 86; refine (l00In_any _ _ _ _).mono ?_; rintro e w1 ⟨rfl, rfl⟩)
          go_round
          case rel => exact ⟨k + 1, by omega, by go_num, HU.out.step HZ.out (by rw [He.out]; exact hb)⟩
          case measure => simp [intOf]; omega
      · have he : trmE k z = inB z 1 1000000000 := by unfold trmE; rw [(if_neg (by omega))]
        have He := Lib.hid he; clear he
        try have hc0 : w.cell? ad = some (.int .i64 z) := by (have h0 : k = 0 := by omega); rw [h0, addr_nil] at hc; exact hc
        cases hb : inB z 1 1000000000
        · go_wp2_with (go_at_call 86; refine (l00In_any _ _ _ _).mono ?_; rintro e w1 ⟨rfl, rfl⟩)
          go_ret
          exact ⟨ret_bool (by rw [HV.out, allK_f _ zs 0 k z HZ.out (by rw [Nat.zero_add, He.out]; exact hb)]; simp), rfl⟩
        · go_wp2_with (go_at_call 86; refine (l00In_any _ _ _ _).mono ?_; rintro e w1 ⟨rfl, rfl⟩)
          go_round
          case rel => exact ⟨k + 1, by omega, by go_num, HU.out.step HZ.out (by rw [He.out]; exact hb)⟩
          case measure => simp [intOf]; omega
    · obtain rfl : n = k := by omega
      go_wp2_with (go_at_call 86; refine (l00In_any _ _ _ _).mono ?_; rintro e w1 ⟨rfl, rfl⟩)
      go_ret
      exact ⟨ret_bool (by rw [HV.out, HU.out.all (by have := Hl.out; omega), Bool.and_true]), rfl⟩

theorem specValidTerms_any (A : Option Addr) (n cap : Nat) (zs : List Int) (w : World) (h : IRow w A n zs) :
    Calls Tryz.prog 8 #[.slice A n cap] w fun e w' => e = .returned (.bool (trmB zs)) ∧ w = w' := by
  go_enter Tryz.func8, Tryz.ntmps8
  go_wp2_with fail
  refine (l03Ok_any A n cap zs _ h).mono ?_
  rintro e w1 ⟨rfl, rfl⟩
  go_wp2_with fail
  go_ret
  exact ⟨rfl, rfl⟩
end Go.Proofs.YtlpglibnjmjjkaaGreatDoor
namespace Go.Proofs.YtlpglibnjmjjkaaGreatDoor
open Go.Lib
set_option linter.unusedVariables false

/-- The terms behind the second one. -/
def tlL : List Int → List UInt8
  | [] => []
  | n :: r => [44, 32] ++ itoa n ++ tlL r
/-- The terms behind the first one. -/
def bodL : List Int → List UInt8
  | [] => []
  | n :: r => [59, 32] ++ itoa n ++ tlL r
/-- The text of terms. -/
def txL : List Int → List UInt8
  | [] => []
  | z :: r => 91 :: (itoa z ++ bodL r) ++ [93]
theorem tlL_app : ∀ (r s : List Int), tlL (r ++ s) = tlL r ++ tlL s
  | [], s => rfl
  | n :: r, s => by
    show [44, 32] ++ itoa n ++ tlL (r ++ s) = [44, 32] ++ itoa n ++ tlL r ++ tlL s
    rw [tlL_app r s, List.append_assoc ([44, 32] ++ itoa n)]
theorem tlL_one (z : Int) : tlL [z] = [44, 32] ++ itoa z := by show [44, 32] ++ itoa z ++ [] = _; rw [List.append_nil]
theorem bodL_one (z : Int) : bodL [z] = [59, 32] ++ itoa z := by show [59, 32] ++ itoa z ++ [] = _; rw [List.append_nil]
theorem bodL_app (y : Int) (r s : List Int) : bodL (y :: r ++ s) = bodL (y :: r) ++ tlL s := by
  show [59, 32] ++ itoa y ++ tlL (r ++ s) = [59, 32] ++ itoa y ++ tlL r ++ tlL s
  rw [tlL_app, List.append_assoc ([59, 32] ++ itoa y)]
theorem join_cons (x y : List UInt8) (r : List (List UInt8)) (sep : List UInt8) : join (x :: y :: r) sep = x ++ sep ++ join (y :: r) sep := by
  unfold join
  rw [List.intercalate_cons_cons]
theorem join_tl : ∀ (r : List Int) (y : Int), join ((y :: r).map itoa) [44, 32] = itoa y ++ tlL r
  | [], y => by unfold join; simp [tlL]
  | z :: r, y => by
    rw [List.map_cons, List.map_cons, join_cons, ← List.map_cons, join_tl r z]
    show _ = itoa y ++ ([44, 32] ++ itoa z ++ tlL r)
    simp
theorem tlL_len : ∀ (r : List Int), (∀ z ∈ r, Rng z) → (tlL r).length ≤ 23 * r.length
  | [], _ => Nat.le_refl _
  | n :: r, h => by
    have h1 := itoa_length_le n (h n (by simp)).1 (h n (by simp)).2
    have h2 := tlL_len r (fun z hz => h z (by simp [hz]))
    show ([44, 32] ++ itoa n ++ tlL r).length ≤ _
    rw [List.length_append, List.length_append, List.length_cons]
    simp; omega
/-- The text so far: k terms. -/
def pfL (zs : List Int) (k : Nat) : List UInt8 := 91 :: (itoa (zs.headD 0) ++ bodL (zs.tail.take (k - 1)))
theorem pfL_one (zs : List Int) : pfL zs 1 = 91 :: itoa (zs.headD 0) := by unfold pfL; simp [bodL]
theorem pfL_step {zs : List Int} {k : Nat} {z : Int} (hk : 1 ≤ k) (hz : zs[k]? = some z) : pfL zs (k + 1) = pfL zs k ++ (if k = 1 then [59, 32] else [44, 32]) ++ itoa z := by
  have hz' : zs.tail[k - 1]? = some z := by rw [List.getElem?_tail, show k - 1 + 1 = k by omega]; exact hz
  have ht : zs.tail.take (k + 1 - 1) = zs.tail.take (k - 1) ++ [z] := by
    rw [show k + 1 - 1 = k - 1 + 1 by omega, List.take_add_one, hz']; rfl
  unfold pfL
  rw [ht]
  by_cases h1 : k = 1
  · subst h1
    simp [bodL, tlL]
  · rw [if_neg h1]
    have hl : k - 1 ≤ zs.tail.length := by
      rcases Nat.lt_or_ge (k - 1) zs.tail.length with h | h
      · omega
      · rw [List.getElem?_eq_none h] at hz'; cases hz'
    match hm : zs.tail.take (k - 1) with
    | [] =>
      have := congrArg List.length hm
      rw [List.length_take, List.length_nil] at this
      omega
    | y :: r =>
      rw [bodL_app, tlL_one]; simp
theorem pfL_all {zs : List Int} {k : Nat} (hk : 1 ≤ k) (hl : zs.length = k) : txL zs = pfL zs k ++ [93] := by
  match zs, hl with
  | z :: r, hl =>
    unfold pfL
    rw [List.take_of_length_le (by simp at hl; simp; omega)]
    rfl
  | [], hl => simp at hl; omega
end Go.Proofs.YtlpglibnjmjjkaaGreatDoor
namespace Go.Proofs.YtlpglibnjmjjkaaGreatDoor
open Go.RowKit
set_option linter.unusedVariables false
set_option linter.unusedSimpArgs false
attribute [local go_sem ↓] Go.wp_at_zero Go.wp_at_succ

theorem info_str : (Tryz.prog.info? 9).map (fun i => (i.zero, i.size, i.bytes)) = some (some (.string ByteArray.empty), 1, 16) := by kernel_rfl
/-- The text of terms as a string. -/
def txS (zs : List Int) : ByteArray := if trmB zs = true then ⟨(txL zs).toArray⟩ else ⟨#[]⟩
theorem data_mk (l : List UInt8) : (⟨l.toArray⟩ : ByteArray).data.toList = l := by simp
theorem data_app (a b : ByteArray) : (a ++ b).data.toList = a.data.toList ++ b.data.toList := by simp

theorem join_len {zs : List Int} (h : ∀ z ∈ zs, Rng z) : (Lib.join (zs.map Lib.itoa) [44, 32]).length ≤ 23 * zs.length := by
  cases zs with
  | nil => simp [Lib.join]
  | cons y r =>
    rw [join_tl, List.length_append, List.length_cons]
    have h1 := Lib.itoa_length_le y (h y (by simp)).1 (h y (by simp)).2
    have h2 := tlL_len r (fun z hz => h z (by simp [hz]))
    omega
set_option maxRecDepth 100000 in
set_option maxHeartbeats 3200000 in
theorem decimals_any (A : Option Addr) (n cap : Nat) (zs : List Int) (w : World) (h : IRow w A n zs) (h1 : 1 ≤ n) (hn : n ≤ 1048576) (hd : Dr w) :
    Calls Tryz.prog 53 #[.slice A n cap, .string ⟨#[44, 32]⟩] w fun e w' => e = .returned (.string ⟨(Lib.join (zs.map Lib.itoa) [44, 32]).toArray⟩) ∧ Below w.heap.size w w' := by
  have hlen := Lib.hid h.len
  have HRg := Lib.hid h.2.2.1
  obtain ⟨i0, hi, hz0, hz1, hz2⟩ := info_parts info_str
  have hw := Lib.hid h; clear h
  have HD := Lib.hid hd; clear hd
  go_enter Tryz.func53, Tryz.ntmps53
  go_wp2_with (at_make; refine wpList_make_full _ rfl _ _ 75 rfl w.heap.size 9 i0 (.string ByteArray.empty) 1 Tryz.underlying75 hi hz0 hz1 .i64 .i64 n n n rfl rfl rfl rfl ?c1 ?c2 ?c3 ?_)
  case c1 => rw [hz2]; omega
  case c2 => unfold maxLen; omega
  case c3 => exact Nat.le_refl _
  intro w1 hown hg
  have hb1 : Below w.heap.size w w1 := (Below.refl _ _).grown hg (Nat.le_refl _) (fun k hk => by cases hk)
  have hrow : w1.ownsRow w.heap.size 9 1 (.slice (some ⟨w.heap.size, 0, none⟩) n n) n ((zs.take 0).map (fun z => Value.string (decS z)) ++ List.replicate (n - 0) (.string ByteArray.empty)) := by
    rw [show (zs.take 0).map (fun z => Value.string (decS z)) ++ List.replicate (n - 0) (Value.string ByteArray.empty) = (madeCells #[Value.string ByteArray.empty] n).toList from by rw [toList_madeCells_one]; simp]
    exact hown
  have HRow := Lib.hid hrow
  have HB1 := Lib.hid hb1
  clear hown hg hi hz0 hz1 hz2 hrow hb1
  go_wp2_with fail
  go_loopw [13] (fun i wr => ∃ k : Nat, k ≤ n ∧ i = .int .i64 k ∧ wr.ownsRow w.heap.size 9 1 (.slice (some ⟨w.heap.size, 0, none⟩) n n) n ((zs.take k).map (fun z => Value.string (decS z)) ++ List.replicate (n - k) (.string ByteArray.empty)) ∧ Below w.heap.size w wr) (fun i _ => n - (intOf i).toNat)
  case atStart => exact ⟨0, Nat.zero_le _, rfl, HRow.out, HB1.out⟩
  case round =>
    obtain ⟨k, hk, rfl, hr, hb⟩ := hrel
    by_cases hlt : k < n
    · obtain ⟨ad, z, rfl, hz, z1, z2, hc⟩ := (hw.out.below hb).at_ hlt
      have HZ := Lib.hid hz
      have HO := Lib.hid hr
      have HB := Lib.hid hb
      clear hz hr hb
      go_wp2_with fail
      refine (decimal_any z wr z1 z2 (HD.out.below HB.out)).mono ?_
      rintro e w2 ⟨rfl, hb2⟩
      have hr2 := own_below HO.out hb2
      have hf := hr2.frozenAt k
      have hco : w2.cell? ⟨w.heap.size, k, none⟩ = some (.string ByteArray.empty) := by
        rw [hr2.cellAt k (by omega)]; exact fill_get (fun z => Value.string (decS z)) (.string ByteArray.empty) zs n k hlen.out hlt
      have hst := (hr2.stored k (.string (decS z))).1
      rw [fill_step (fun z => Value.string (decS z)) (.string ByteArray.empty) zs n k z hlen.out hlt HZ.out] at hst
      have hbs : Below w.heap.size w (w2.setCell ⟨w.heap.size, k, none⟩ (.string (decS z))) := (HB.out.trans (hb2.mono HB.out.size)).setCell (p := ⟨w.heap.size, k, none⟩) (Nat.le_refl _) _
      have HS := Lib.hid hst
      have HBS := Lib.hid hbs
      clear hst hr2 hb2 hbs hc
      go_wp2_with fail
      go_roundw
      case rel => exact ⟨k + 1, by omega, by go_num, HS.out, HBS.out⟩
      case measure => simp [intOf]; omega
    · obtain rfl : n = k := by omega
      have hr2 : wr.ownsRow w.heap.size 9 1 (.slice (some ⟨w.heap.size, 0, none⟩) n n) n (zs.map (fun z => Value.string (decS z))) := by
        have e : (zs.take n).map (fun z => Value.string (decS z)) ++ List.replicate (n - n) (Value.string ByteArray.empty) = zs.map (fun z => Value.string (decS z)) := by
          rw [Nat.sub_self, List.take_of_length_le (by have := hlen.out; omega)]; simp
        rw [e] at hr
        exact hr
      have hJ := Tryz.strings_Join w.heap.size 0 n (zs.map decS) ⟨#[44, 32]⟩ wr (fun j x hj => by
          rw [Nat.zero_add, hr2.cellAt j (by have := (List.getElem?_eq_some_iff.1 hj).1; rw [List.length_map, hlen.out] at this; omega), List.getElem?_map]
          rw [List.getElem?_map] at hj
          cases hz : zs[j]? with
          | none => rw [hz] at hj; cases hj
          | some z => rw [hz] at hj; injection hj with hj; rw [← hj]; rfl) (by obtain ⟨g, e, _, hg⟩ := own_some hr2 (by omega); injection e with e; injection e with e; omega) (by rw [List.length_map, hlen.out]; omega) (by rw [List.length_map, hlen.out]; exact Nat.le_refl _)
          (by
            have e : (zs.map decS).map (·.data.toList) = zs.map Lib.itoa := by rw [List.map_map]; exact List.map_congr_left (fun z _ => decS_data z)
            have := join_len HRg.out
            rw [e]
            show (Lib.join (zs.map Lib.itoa) [44, 32]).length ≤ _
            rw [hlen.out] at this; omega)
      have e : (zs.map decS).map (·.data.toList) = zs.map Lib.itoa := by rw [List.map_map]; exact List.map_congr_left (fun z _ => decS_data z)
      rw [e, List.length_map, hlen.out] at hJ
      have HJ := Lib.hid hJ
      have HB := Lib.hid hb
      clear hJ hr hr2 e hb
      go_wp2_with fail
      refine HJ.out.mono ?_
      rintro e w3 ⟨rfl, hb3⟩
      have hBf := HB.out.trans (hb3.mono HB.out.size)
      clear hb3
      go_wp2_with fail
      go_ret
      exact ⟨rfl, hBf⟩
set_option maxRecDepth 100000 in
set_option maxHeartbeats 3200000 in
theorem implTtx_any (A : Option Addr) (n cap : Nat) (zs : List Int) (w : World) (h : IRow w A n zs) (hcap : n ≤ cap) (hd : Dr w) :
    Calls Tryz.prog 13 #[.slice A n cap] w fun e w' => e = .returned (.string (txS zs)) ∧ Below w.heap.size w w' := by
  have HV := Lib.hid (validTerms_any A n cap zs w h hcap)
  cases hv : trmB zs
  · rw [show txS zs = ⟨#[]⟩ from if_neg (by rw [hv]; decide)]
    rw [hv] at HV
    go_enter Tryz.func13, Tryz.ntmps13
    go_wp2_with fail
    refine HV.out.mono ?_
    rintro e w' ⟨rfl, rfl⟩
    go_wp2_with fail
    go_ret
    exact ⟨rfl, Below.refl _ _⟩
  · obtain ⟨t1, t2, _⟩ := trmB_iff.1 hv
    rw [h.len] at t1 t2
    rw [show txS zs = ⟨(txL zs).toArray⟩ from if_pos hv]
    rw [hv] at HV
    obtain ⟨ad, z, rfl, hz, z1, z2, hc⟩ := h.at_ (k := 0) (by omega)
    rw [addr_nil] at hc
    have hs1 : (decS z).size ≤ 21 := decS_size z1 z2
    have HZ := Lib.hid hz
    have HW := Lib.hid h
    have HD := Lib.hid hd
    have HL := Lib.hid h.len
    clear h hz hd hv
    rcases (by omega : n = 1 ∨ 2 ≤ n) with hn | hn
    · subst hn
      have HE := Lib.hid (show txL zs = 91 :: (Lib.itoa z) ++ [93] by
        match zs, HZ.out, HL.out with
        | [a], e, _ => simp at e; subst e; show 91 :: (Lib.itoa a ++ []) ++ [93] = _; rw [List.append_nil])
      go_enter Tryz.func13, Tryz.ntmps13
      go_wp2_with fail
      refine HV.out.mono ?_
      rintro e w' ⟨rfl, rfl⟩
      go_wp2_with fail
      refine (decimal_any z w z1 z2 HD.out).mono ?_
      rintro e w1 ⟨rfl, hb1⟩
      have HB := Lib.hid hb1
      clear hb1 hc
      go_wp2_with fail
      go_ret
      exact ⟨ret_str (str_ext (by rw [data_app, data_app, decS_data, data_mk, HE.out]; rfl)), HB.out⟩
    · have HJ := Lib.hid (show ∃ y r, zs = z :: y :: r by
        match zs, HZ.out, HL.out with
        | a :: y :: r, e, _ => simp at e; exact ⟨y, r, by rw [e]⟩
        | [a], _, e => simp at e; omega)
      have HT := Lib.hid (show Lib.join (zs.tail.map Lib.itoa) [44, 32] = Lib.itoa (zs.tail.headD 0) ++ tlL zs.tail.tail by
        obtain ⟨y, r, e⟩ := HJ.out
        rw [e]; exact join_tl r y)
      have hjl : (⟨(Lib.join (zs.tail.map Lib.itoa) [44, 32]).toArray⟩ : ByteArray).size ≤ 23 * 60 := by
        have := join_len (zs := zs.tail) (fun x hx => HW.out.2.2.1 x (List.mem_of_mem_tail hx))
        rw [List.length_tail, HL.out] at this
        show (Lib.join (zs.tail.map Lib.itoa) [44, 32]).toArray.size ≤ _
        rw [List.size_toArray]; omega
      have HX := Lib.hid (show txL zs = 91 :: (Lib.itoa z) ++ ([59, 32] ++ Lib.join (zs.tail.map Lib.itoa) [44, 32]) ++ [93] by
        rw [HT.out]
        obtain ⟨y, r, e⟩ := HJ.out
        rw [e]
        show 91 :: (Lib.itoa z ++ ([59, 32] ++ Lib.itoa y ++ tlL r)) ++ [93] = 91 :: Lib.itoa z ++ ([59, 32] ++ (Lib.itoa y ++ tlL r)) ++ [93]
        simp)
      have ht := HW.out.tail (show 1 ≤ n by omega) cap hcap
      have hc1 : cap ≠ 1 := by omega
      rw [if_neg hc1] at ht
      have HTl := Lib.hid (show IRow w (some ⟨ad.block, ad.off + 1, none⟩) (n - 1) zs.tail from ht)
      have HDc := Lib.hid (fun W h d => decimals_any (some ⟨ad.block, ad.off + 1, none⟩) (n - 1) (cap - 1) zs.tail W h (by omega) (by omega) d)
      have hJ2 : (⟨(Lib.join (zs.tail.map Lib.itoa) [44, 32]).toArray⟩ : ByteArray).data.toList = Lib.join (zs.tail.map Lib.itoa) [44, 32] := data_mk _
      generalize (⟨(Lib.join (zs.tail.map Lib.itoa) [44, 32]).toArray⟩ : ByteArray) = J at hjl HDc hJ2
      have HJ2 := Lib.hid hJ2
      clear ht hJ2 HT HJ
      go_enter Tryz.func13, Tryz.ntmps13
      go_wp2_with fail
      refine HV.out.mono ?_
      rintro e w' ⟨rfl, rfl⟩
      go_wp2_with fail
      refine (decimal_any z w z1 z2 HD.out).mono ?_
      rintro e w1 ⟨rfl, hb1⟩
      have HB := Lib.hid hb1
      clear hb1 hc
      go_wp2_with fail
      refine (HDc.out w1 (HTl.out.below HB.out) (HD.out.below HB.out)).mono ?_
      rintro e w2 ⟨rfl, hb2⟩
      have HB2 := Lib.hid (HB.out.trans (hb2.mono HB.out.size))
      clear hb2
      go_wp2_with fail
      go_ret
      exact ⟨ret_str (str_ext (by rw [data_app, data_app, data_app, data_app, decS_data, data_mk, HX.out, HJ2.out]; rfl)), HB2.out⟩
end Go.Proofs.YtlpglibnjmjjkaaGreatDoor
namespace Go.Proofs.YtlpglibnjmjjkaaGreatDoor
open Go.Lib
set_option linter.unusedVariables false

/-- Bytes laid before the first piece. -/
def preP (p : List UInt8) : List (List UInt8) → List (List UInt8)
  | [] => [p]
  | h :: t => (p ++ h) :: t
/-- The pieces of a text between bytes c. -/
def splL (c : UInt8) : List UInt8 → List (List UInt8)
  | [] => [[]]
  | b :: r => if b = c then [] :: splL c r else preP [b] (splL c r)
theorem preP_nil {x : List (List UInt8)} (h : x ≠ []) : preP [] x = x := by
  match x, h with
  | a :: r, _ => rfl
theorem preP_pre (p q : List UInt8) (x : List (List UInt8)) : preP p (preP q x) = preP (p ++ q) x := by
  cases x with
  | nil => rfl
  | cons a r => show (p ++ (q ++ a)) :: r = (p ++ q ++ a) :: r; rw [List.append_assoc]
theorem splL_ne (c : UInt8) : ∀ l, splL c l ≠ []
  | [] => by simp [splL]
  | b :: r => by
    unfold splL
    split
    · simp
    · match hs : splL c r with
      | [] => exact absurd hs (splL_ne c r)
      | a :: t => simp [preP]
theorem splL_eq (c : UInt8) (r : List UInt8) : splL c (c :: r) = [] :: splL c r := by rw [splL, if_pos rfl]
theorem splL_cons {b c : UInt8} (h : b ≠ c) (r : List UInt8) : splL c (b :: r) = preP [b] (splL c r) := by rw [splL, if_neg h]
theorem splL_len (c : UInt8) : ∀ l, (splL c l).length = l.count c + 1
  | [] => rfl
  | b :: r => by
    have ih := splL_len c r
    by_cases h : b = c
    · subst h
      rw [splL_eq, List.length_cons, ih, List.count_cons_self]
    · rw [splL_cons h, List.count_cons_of_ne (fun e => h e)]
      match hs : splL c r with
      | [] => exact absurd hs (splL_ne c r)
      | a :: t => rw [← ih, hs]; rfl
theorem splL_none (c : UInt8) : ∀ l, l.count c = 0 → splL c l = [l]
  | [], _ => rfl
  | b :: r, h => by
    have hb : b ≠ c := fun e => by subst e; rw [List.count_cons_self] at h; omega
    rw [List.count_cons_of_ne (fun e => hb e)] at h
    rw [splL_cons hb, splL_none c r h]; rfl
theorem index_cons (b c : UInt8) (l : List UInt8) : index (b :: l) [c] = if b = c then 0 else if index l [c] = -1 then -1 else index l [c] + 1 := by
  rw [index]
  by_cases h : b = c
  · subst h; simp
  · have : ¬ c = b := fun e => h e.symm
    simp [h, this]
theorem index_none (c : UInt8) : ∀ l, index l [c] = -1 → l.count c = 0
  | [], _ => rfl
  | b :: r, h => by
    rw [index_cons] at h
    have hge := index_ge r [c]
    split at h
    · omega
    · rename_i hb
      split at h
      · rename_i h1
        rw [List.count_cons_of_ne (fun e => hb e)]
        exact index_none c r h1
      · omega
/-- The library's pieces are those. -/
theorem splitK_spl (c : UInt8) : ∀ (l : List UInt8) (k : Nat), l.count c ≤ k → splitK [c] 0 k l = splL c l
  | [], k, _ => by
    cases k with
    | zero => rfl
    | succ k => rw [splitK, if_pos (by rfl)]; rfl
  | b :: r, k, h => by
    by_cases hb : b = c
    · subst hb
      rw [List.count_cons_self] at h
      obtain ⟨j, rfl⟩ : ∃ j, k = j + 1 := ⟨k - 1, by omega⟩
      have hi : index (b :: r) [b] = 0 := by rw [index_cons, if_pos rfl]
      rw [splitK, hi, if_neg (by decide), splL_eq]
      show ([] : List UInt8) :: splitK [b] 0 j r = [] :: splL b r
      rw [splitK_spl b r j (by omega)]
    · rw [List.count_cons_of_ne (fun e => hb e)] at h
      have ih := splitK_spl c r k h
      rw [splL_cons hb, ← ih]
      cases k with
      | zero => rfl
      | succ j =>
        rw [splitK, splitK, index_cons, if_neg hb]
        have hge := index_ge r [c]
        by_cases h1 : index r [c] = -1
        · rw [if_pos h1, if_pos (by rfl), if_pos (by rw [h1]; rfl)]; rfl
        · rw [if_neg h1, if_neg (by rw [beq_iff_eq]; omega), if_neg (by rw [beq_iff_eq]; exact h1)]
          obtain ⟨i, hi⟩ : ∃ i : Nat, index r [c] = i := ⟨(index r [c]).toNat, by omega⟩
          rw [hi]
          have e1 : ((i : Int) + 1).toNat = i + 1 := by omega
          have e2 : (i : Int).toNat = i := by omega
          rw [e1, e2]
          simp [preP]
theorem splitB_spl (c : UInt8) (s : ByteArray) : (splitB ⟨#[c]⟩ 0 (countB s ⟨#[c]⟩) s).map (·.data.toList) = splL c s.data.toList := by
  rw [splitB_data]
  refine splitK_spl c _ _ ?_
  have : countB s ⟨#[c]⟩ = s.data.toList.count c := count_one c s.data.toList
  omega
theorem countB_spl (c : UInt8) (s : ByteArray) : countB s ⟨#[c]⟩ + 1 = (splL c s.data.toList).length := by
  rw [splL_len]
  have : countB s ⟨#[c]⟩ = s.data.toList.count c := count_one c s.data.toList
  omega
/-- The pieces found so far, and the one that is open. -/
def SpAt (c : UInt8) (l : List UInt8) (i f : Nat) (done : List (List UInt8)) : Prop := splL c l = done ++ preP ((l.take i).drop f) (splL c (l.drop i))
theorem SpAt.start (c : UInt8) (l : List UInt8) : SpAt c l 0 0 [] := by
  unfold SpAt
  rw [List.take_zero, List.drop_zero, List.nil_append]
  exact (preP_nil (splL_ne c l)).symm
theorem SpAt.hit {c : UInt8} {l : List UInt8} {i f : Nat} {done : List (List UInt8)} (h : SpAt c l i f done) (hc : l[i]? = some c) : SpAt c l (i + 1) (i + 1) (done ++ [(l.take i).drop f]) := by
  have hl : i < l.length := by
    rcases Nat.lt_or_ge i l.length with h' | h'
    · exact h'
    · rw [List.getElem?_eq_none h'] at hc; cases hc
  have hd : l.drop i = c :: l.drop (i + 1) := by
    rw [List.drop_eq_getElem_cons hl]
    rw [List.getElem?_eq_getElem hl] at hc
    injection hc with hc
    rw [hc]
  unfold SpAt at *
  have e : (l.take (i + 1)).drop (i + 1) = [] := List.drop_of_length_le (by rw [List.length_take]; omega)
  rw [h, hd, splL_eq, List.append_assoc, e, preP_nil (splL_ne _ _)]
  simp [preP]
theorem SpAt.miss {c b : UInt8} {l : List UInt8} {i f : Nat} {done : List (List UInt8)} (h : SpAt c l i f done) (hb : l[i]? = some b) (hbc : b ≠ c) (hf : f ≤ i) : SpAt c l (i + 1) f done := by
  have hl : i < l.length := by
    rcases Nat.lt_or_ge i l.length with h' | h'
    · exact h'
    · rw [List.getElem?_eq_none h'] at hb; cases hb
  have hd : l.drop i = b :: l.drop (i + 1) := by
    rw [List.drop_eq_getElem_cons hl]
    rw [List.getElem?_eq_getElem hl] at hb
    injection hb with hb
    rw [hb]
  have ht : (l.take (i + 1)).drop f = (l.take i).drop f ++ [b] := by
    rw [List.take_add_one, hb]
    rw [List.drop_append_of_le_length (by rw [List.length_take]; omega)]; rfl
  unfold SpAt at *
  rw [h, hd, splL_cons hbc, preP_pre, ht]
theorem SpAt.done {c : UInt8} {l : List UInt8} {i f : Nat} {dn : List (List UInt8)} (h : SpAt c l i f dn) (hi : l.length ≤ i) : splL c l = dn ++ [l.drop f] := by
  unfold SpAt at h
  rw [h, List.drop_of_length_le hi, List.take_of_length_le hi]
  simp [splL, preP]
end Go.Proofs.YtlpglibnjmjjkaaGreatDoor
namespace Go.Proofs.YtlpglibnjmjjkaaGreatDoor
open Go.RowKit
set_option linter.unusedVariables false
set_option linter.unusedSimpArgs false
attribute [local go_sem ↓] Go.wp_at_zero Go.wp_at_succ

/-- The library's variable MaxLen holds a number. -/
def Mx (w : World) : Prop := ∃ m, w.cell? ⟨0, 0, none⟩ = some (.int .i64 m)
theorem Mx.below {w w' : World} (h : Mx w) (hb : Below w.heap.size w w') : Mx w' := by
  obtain ⟨m, hm⟩ := h
  exact ⟨m, (hb.cell (p := ⟨0, 0, none⟩) (World.block_lt_of_cell? w _ hm)).trans hm⟩
theorem mx {w : World} (h : w.ShapedOpen Tryz.prog) : Mx w := Tryz.laysM138.s1_3 w h
/-- A list of texts, the call's own. -/
def RetT (base : Nat) (ls : List (List UInt8)) (e : Ending) (w : World) : Prop :=
  ∃ (A : Option Addr) (c : Nat) (ts : List ByteArray), e = .returned (.slice A ls.length c) ∧ w.ownsRow base 9 1 (.slice A ls.length c) ls.length (ts.map Value.string) ∧ ts.map (fun t : ByteArray => t.data.toList) = ls
theorem own_lenT {w : World} {base e n : Nat} {v : Value} {ts : List ByteArray} (h : w.ownsRow base e 1 v n (ts.map Value.string)) : ts.length = n := by have := h.1; simpa using this
theorem own_cellT {w : World} {base e n c g : Nat} {ts : List ByteArray} {k : Nat} {t : ByteArray} (h : w.ownsRow base e 1 (.slice (some ⟨g, 0, none⟩) n c) n (ts.map Value.string)) (ht : ts[k]? = some t) : w.cell? ⟨g, k, none⟩ = some (.string t) := by
  have hl := own_lenT h
  have hk : k < n := by
    rcases Nat.lt_or_ge k ts.length with h' | h'
    · omega
    · rw [List.getElem?_eq_none h'] at ht; cases ht
  rw [h.cellAt k (by omega), List.getElem?_map, ht]; rfl
theorem ext_mid (s : ByteArray) (f i : Nat) : (s.extract f i).data.toList = (s.data.toList.take i).drop f := by
  simp [List.drop_take]
theorem ext_end (s : ByteArray) (f : Nat) : (s.extract f s.size).data.toList = s.data.toList.drop f := by
  rw [ext_mid, List.take_of_length_le (by rw [len_size]; exact Nat.le_refl _)]
set_option maxRecDepth 100000 in
set_option maxHeartbeats 3200000 in
theorem l01Split_any (s : ByteArray) (c : UInt8) (w : World) (hs : s.size ≤ 1048576) :
    Calls Tryz.prog 74 #[.string s, .int .u8 (c.toNat : Nat)] w fun e w' => RetT w.heap.size (splL c s.data.toList) e w' ∧ Below w.heap.size w w' := by
  obtain ⟨i0, hi, hz0, hz1, hz2⟩ := info_parts info_str
  have HO0 := Lib.hid (World.ownsRow_made (e := 9) (size := 1) w #[] 0 (Nat.le_refl _) (by decide) rfl)
  go_enter Tryz.func74, Tryz.ntmps74
  go_wp2_with fail
  go_loopw [5, 6, 7] (fun l fr i wr => ∃ (k f m cp g : Nat) (ts : List ByteArray), l = .slice (some ⟨g, 0, none⟩) m cp ∧ fr = .int .i64 f ∧ i = .int .i64 k ∧ f ≤ k ∧ k ≤ s.size ∧ m ≤ k ∧
    wr.ownsRow w.heap.size 9 1 (.slice (some ⟨g, 0, none⟩) m cp) m (ts.map Value.string) ∧ Hid (SpAt c s.data.toList k f (ts.map (fun t : ByteArray => t.data.toList))) ∧ Below w.heap.size w wr) (fun _ _ i _ => s.size - (intOf i).toNat)
  case atStart => exact ⟨0, 0, 0, 0, _, [], rfl, rfl, rfl, Nat.le_refl _, Nat.zero_le _, Nat.le_refl _, by have := HO0.out; simpa using this, SpAt.start _ _, (Below.refl _ _).alloc (Nat.le_refl _) _⟩
  case round =>
    obtain ⟨k, f, m, cp, g, ts, rfl, rfl, rfl, hfk, hks, hmk, hown, HE, hbel⟩ := hrel
    have HO := Lib.hid hown
    have HB := Lib.hid hbel
    have hwr : w.heap.size ≤ wr.heap.size := hbel.size
    have HLF := Lib.hid hown.lt
    clear hown hbel
    by_cases hlt : k < s.size
    · have hgk : s.data.toList[k]? = some s[k] := Lib.data_getElem? s k hlt
      by_cases hc : s[k] = c
      · have hcb : ((s[k].toNat : Int) == (c.toNat : Int)) = true := by rw [hc]; exact beq_self_eq_true _
        have HE' := Lib.hid (HE.out.hit (by rw [hgk, hc]))
        clear hgk hc
        go_wp2_with (first | (at_builtin; refine wpList_append_lies _ rfl (.tmp 20) (.tmp 25) 75 rfl w.heap.size 9 i0 (.string ByteArray.empty) 1 16 Tryz.underlying75 hi hz0 hz1 hz2 rfl (by decide) _ m (ts.map Value.string) (by rfl) (HO.out.alloc _) ⟨wr.heap.size, 0, none⟩ 1 1 [.string (s.extract f k)] (by rfl) rfl (fun j u hu => newcell (by simp) hu) (by simp [Value.oneCell']) (by decide) (by show m + 1 ≤ 9223372036854775807; omega) (by omega) (by simp; omega) (wr.heap.size + 1) (by simp) ?_; intro g' cap1 wn hown1 hgrow hat hlt1))
        go_roundw
        case rel =>
          refine ⟨k + 1, k + 1, m + 1, cap1, g', ts ++ [s.extract f k], rfl, by go_num, by go_num, Nat.le_refl _, by omega, by omega, by rw [List.map_append]; exact hown1, ?_, ?_⟩
          · show SpAt _ _ _ _ _
            rw [List.map_append, List.map_cons, List.map_nil, ext_mid]
            exact HE'.out
          · exact (HB.out.alloc hwr _).grown hgrow (by simp; omega) (fun j hj => (HLF.out j hj).1)
        case measure => simp [intOf] <;> omega
      · have hcb : ((s[k].toNat : Int) == (c.toNat : Int)) = false := by
          rw [beq_eq_false_iff_ne]
          intro e
          exact hc (Lib.byte_eq_of_toNat e)
        have HE' := Lib.hid (HE.out.miss hgk hc hfk)
        clear hgk hc
        go_wp2_with fail
        go_roundw
        case rel => exact ⟨k + 1, f, m, cp, g, ts, rfl, rfl, by go_num, by omega, by omega, by omega, HO.out, HE'.out, HB.out⟩
        case measure => simp [intOf] <;> omega
    · have hks2 : s.size ≤ k := by omega
      have HE' := Lib.hid (HE.out.done (by rw [len_size]; exact hks2))
      clear hlt
      go_wp2_with (first | (at_builtin; refine wpList_append_lies _ rfl (.tmp 29) (.tmp 33) 75 rfl w.heap.size 9 i0 (.string ByteArray.empty) 1 16 Tryz.underlying75 hi hz0 hz1 hz2 rfl (by decide) _ m (ts.map Value.string) (by rfl) (HO.out.alloc _) ⟨wr.heap.size, 0, none⟩ 1 1 [.string (s.extract f s.size)] (by rfl) rfl (fun j u hu => newcell (by simp) hu) (by simp [Value.oneCell']) (by decide) (by show m + 1 ≤ 9223372036854775807; omega) (by omega) (by simp; omega) (wr.heap.size + 1) (by simp) ?_; intro g' cap1 wn hown1 hgrow hat hlt1))
      go_ret
      have hl : (splL c s.data.toList).length = m + 1 := by rw [HE'.out, List.length_append, List.length_map, own_lenT HO.out]; rfl
      refine ⟨⟨some ⟨g', 0, none⟩, cap1, ts ++ [s.extract f s.size], by rw [hl]; rfl, ?_, ?_⟩, ?_⟩
      · rw [hl, List.map_append]; exact hown1
      · rw [HE'.out, List.map_append, List.map_cons, List.map_nil, ext_end]
      · exact (HB.out.alloc hwr _).grown hgrow (by simp; omega) (fun j hj => (HLF.out j hj).1)
end Go.Proofs.YtlpglibnjmjjkaaGreatDoor
namespace Go.Proofs.YtlpglibnjmjjkaaGreatDoor
open Go.RowKit
set_option linter.unusedVariables false
set_option linter.unusedSimpArgs false
attribute [local go_sem ↓] Go.wp_at_zero Go.wp_at_succ

/-- A row of texts that can be read. -/
def TRow (w : World) (A : Option Addr) (n : Nat) (ts : List ByteArray) : Prop := ts.length = n ∧ n ≤ 1048577 ∧ Rd w A (ts.map Value.string)
theorem TRow.at_ {w : World} {A : Option Addr} {n : Nat} {ts : List ByteArray} {k : Nat} (h : TRow w A n ts) (hk : k < n) : ∃ ad t, A = some ad ∧ ts[k]? = some t ∧ w.cell? (ad.add k) = some (.string t) := by
  have hl : k < ts.length := by rw [h.1]; exact hk
  have hz : ts[k]? = some ts[k] := List.getElem?_eq_getElem hl
  obtain ⟨ad, e, hc⟩ := h.2.2 k (.string ts[k]) (by simp [hz])
  exact ⟨ad, _, e, hz, hc⟩
theorem TRow.below {w w' : World} {A : Option Addr} {n : Nat} {ts : List ByteArray} (h : TRow w A n ts) (hb : Below w.heap.size w w') : TRow w' A n ts := ⟨h.1, h.2.1, h.2.2.below hb⟩
theorem TRow.of_own {w : World} {A : Option Addr} {n base e c : Nat} {ts : List ByteArray} (h : w.ownsRow base e 1 (.slice A n c) n (ts.map Value.string)) (hn : n ≤ 1048577) : TRow w A n ts :=
  ⟨by have := h.1; simpa using this, hn, Rd.of_own h⟩
theorem grown_below {w w' w2 : World} {row : Option Nat} (h : w.grownBy w' row) (hb : Below w'.heap.size w' w2) : w.grownBy w2 row :=
  grown_trans h ⟨hb.os, hb.tape, hb.output, hb.size, fun i hi _ => hb.block i hi⟩
/-- The text of a mark. -/
def mtS (k : Int) : ByteArray := ⟨(109 :: digsU k.natAbs).toArray⟩
def mkT (k : Int) (n : Nat) : List ByteArray := (List.range n).map fun j : Nat => mtS (k + (j : Int))
theorem mkT_len (k : Int) (n : Nat) : (mkT k n).length = n := by unfold mkT; simp
theorem mkT_get (k : Int) (n j : Nat) (h : j < n) : (mkT k n)[j]? = some (mtS (k + (j : Int))) := by unfold mkT; rw [List.getElem?_map, List.getElem?_range h]; rfl
end Go.Proofs.YtlpglibnjmjjkaaGreatDoor
namespace Go.Proofs.YtlpglibnjmjjkaaGreatDoor
open Go.Lib
set_option linter.unusedVariables false

def mkS (s : Int) : List UInt8 := if s < 0 then [32, 45] else [32, 43]
/-- The terms behind the first one. -/
def stL : List (Int × Int) → List UInt8
  | [] => []
  | z :: r => mkS z.1 ++ itoa z.2 ++ stL r
/-- The text of terms with signs. -/
def sgL : List (Int × Int) → List UInt8
  | [] => []
  | z :: r => itoa z.2 ++ stL r
theorem stL_app : ∀ (r s : List (Int × Int)), stL (r ++ s) = stL r ++ stL s
  | [], s => rfl
  | z :: r, s => by
    show mkS z.1 ++ itoa z.2 ++ stL (r ++ s) = mkS z.1 ++ itoa z.2 ++ stL r ++ stL s
    rw [stL_app r s, List.append_assoc (mkS z.1 ++ itoa z.2)]
theorem stL_one (z : Int × Int) : stL [z] = mkS z.1 ++ itoa z.2 := by show mkS z.1 ++ itoa z.2 ++ [] = _; rw [List.append_nil]
/-- The text so far: k terms. -/
def sfL (zs : List (Int × Int)) (k : Nat) : List UInt8 := itoa (zs.headD (0, 0)).2 ++ stL (zs.tail.take (k - 1))
theorem sfL_one (zs : List (Int × Int)) : sfL zs 1 = itoa (zs.headD (0, 0)).2 := by unfold sfL; simp [stL]
theorem sfL_step {zs : List (Int × Int)} {k : Nat} {z : Int × Int} (hk : 1 ≤ k) (hz : zs[k]? = some z) : sfL zs (k + 1) = sfL zs k ++ (mkS z.1 ++ itoa z.2) := by
  have hz' : zs.tail[k - 1]? = some z := by rw [List.getElem?_tail, show k - 1 + 1 = k by omega]; exact hz
  have ht : zs.tail.take (k + 1 - 1) = zs.tail.take (k - 1) ++ [z] := by
    rw [show k + 1 - 1 = k - 1 + 1 by omega, List.take_add_one, hz']; rfl
  unfold sfL
  rw [ht, stL_app, stL_one, List.append_assoc (itoa _)]
theorem sfL_all {zs : List (Int × Int)} {k : Nat} (hk : 1 ≤ k) (hl : zs.length = k) : sgL zs = sfL zs k := by
  match zs, hl with
  | z :: r, hl =>
    unfold sfL
    rw [List.take_of_length_le (by simp at hl; simp; omega)]
    rfl
  | [], hl => simp at hl; omega
end Go.Proofs.YtlpglibnjmjjkaaGreatDoor
