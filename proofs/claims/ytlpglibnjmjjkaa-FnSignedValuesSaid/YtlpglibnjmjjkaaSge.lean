/-
  Drawn terms with signs: contracts of the reference's l04Draw and l04Bent.
  No condition but those of the law's own text.
-/
import Derived.Test.YtlpglibnjmjjkaaProg
import Derived.Test.YtlpglibnjmjjkaaMem
import Derived.Test.YtlpglibnjmjjkaaBasic
import Derived.Test.YtlpglibnjmjjkaaAllk
import Derived.Test.YtlpglibnjmjjkaaFrac
import Derived.Test.YtlpglibnjmjjkaaFrac3
import Derived.Test.YtlpglibnjmjjkaaMarks
import Derived.Test.YtlpglibnjmjjkaaInts
import Derived.Test.YtlpglibnjmjjkaaSig
import Derived.Test.YtlpglibnjmjjkaaSgn
import Derived.Test.YtlpglibnjmjjkaaOwn
import Derived.Test.YtlpglibnjmjjkaaExp
import Derived.Test.YtlpglibnjmjjkaaKnd
import Derived.Test.YtlpglibnjmjjkaaSrc
import Derived.Test.YtlpglibnjmjjkaaDrw
import Derived.Test.YtlpglibnjmjjkaaDrT
import Derived.Test.YtlpglibnjmjjkaaSgd
import Derived.Handy
import Derived.BigQuiet
import Derived.RegionTactic
import Derived.BigRegion
import Derived.Deep.QuietTactic
import Derived.Deep.RegionHeld3
import Derived.Deep.DrawnRows
import Derived.Deep.AppendLies
namespace Go.Proofs.Ytlpglibnjmjjkaa
open Go.RowKit
set_option linter.unusedVariables false
set_option linter.unusedSimpArgs false
attribute [local go_sem ↓] Go.wp_at_zero Go.wp_at_succ

theorem sgn_one {v : Int} (h1 : -1000000000 ≤ v) (h2 : v ≤ 1000000000) : sgnB [(1, v)] = true := by
  unfold sgnB
  rw [Bool.and_eq_true]
  refine ⟨inB_iff.2 ⟨by simp, by simp⟩, allK_t sgnE _ 0 fun k z hk => ?_⟩
  cases k with
  | zero =>
    simp at hk; subst hk
    unfold sgnE
    rw [if_pos rfl, Bool.and_eq_true]
    exact ⟨rfl, inB_iff.2 ⟨h1, h2⟩⟩
  | succ k => simp at hk
theorem sgn_app {fs : List (Int × Int)} {s v : Int} (h : sgnB fs = true) (hl : fs.length ≤ 59) (hs : s = 1 ∨ s = -1) (h1 : 1 ≤ v) (h2 : v ≤ 1000000000) : sgnB (fs ++ [(s, v)]) = true := by
  unfold sgnB at h ⊢
  rw [Bool.and_eq_true] at h ⊢
  obtain ⟨a, b⟩ := h
  obtain ⟨a1, a2⟩ := inB_iff.1 a
  refine ⟨inB_iff.2 ⟨by simp; omega, by simp; omega⟩, allK_t sgnE _ 0 fun k z hk => ?_⟩
  rw [List.getElem?_append] at hk
  split at hk
  · exact allK_at sgnE fs 0 k z b hk
  · rename_i hj
    have hz : z = (s, v) := by
      cases hk2 : k - fs.length with
      | zero => rw [hk2] at hk; simp at hk; exact hk.symm
      | succ i => rw [hk2] at hk; simp at hk
    subst hz
    unfold sgnE psE
    rw [if_neg (by omega), Bool.and_eq_true]
    refine ⟨?_, inB_iff.2 ⟨h1, h2⟩⟩
    rcases hs with rfl | rfl <;> rfl
theorem sgn_len {fs : List (Int × Int)} (h : sgnB fs = true) : 1 ≤ fs.length ∧ fs.length ≤ 60 ∧ ∀ z ∈ fs, Rng z.1 ∧ Rng z.2 := by
  have hr := (sgn_in h).2.2
  unfold sgnB at h
  rw [Bool.and_eq_true] at h
  obtain ⟨a1, a2⟩ := inB_iff.1 h.1
  refine ⟨by omega, by omega, fun z hz => ?_⟩
  have := hr z hz
  unfold Rng; omega
theorem exs_sgn {x y kd : Int} (h : exsC x y kd = 0) : sgnB (exsL x y kd) = true := by
  have hc : cdeK x y kd = 0 := by
    rcases Decidable.em (cdeK x y kd = 0) with h0 | h0
    · exact h0
    · rw [(exs_code h0).2] at h; exact absurd h h0
  obtain ⟨e1, e2⟩ := exs_zero hc
  cases ho : exsO x y kd with
  | none => rw [e2, ho] at h; cases h
  | some l => rw [e1, ho]; exact (exsO_in ho).1
theorem prs_set1 : ∀ (zs : List (Int × Int)) (k : Nat) (p : Int × Int) (u : Int), zs[k]? = some p → (prs zs).set (k * 2) (.int .i64 u) = prs (zs.set k (u, p.2))
  | [], k, p, u, h => by simp at h
  | q :: r, 0, p, u, h => by simp at h; subst h; rfl
  | q :: r, k + 1, p, u, h => by
    have := prs_set1 r k p u (by simpa using h)
    rw [show (k + 1) * 2 = (k * 2) + 1 + 1 from by omega]
    simpa [prs] using this
theorem prs_set2 : ∀ (zs : List (Int × Int)) (k : Nat) (p : Int × Int) (u : Int), zs[k]? = some p → (prs zs).set (k * 2 + 1) (.int .i64 u) = prs (zs.set k (p.1, u))
  | [], k, p, u, h => by simp at h
  | q :: r, 0, p, u, h => by simp at h; subst h; rfl
  | q :: r, k + 1, p, u, h => by
    have := prs_set2 r k p u (by simpa using h)
    rw [show (k + 1) * 2 + 1 = (k * 2 + 1) + 1 + 1 from by omega]
    simpa [prs] using this
theorem rng_set {zs : List (Int × Int)} {k : Nat} {p : Int × Int} (h : ∀ z ∈ zs, Rng z.1 ∧ Rng z.2) (hp : Rng p.1 ∧ Rng p.2) : ∀ z ∈ zs.set k p, Rng z.1 ∧ Rng z.2 := fun z hz => by
  rcases List.mem_or_eq_of_mem_set hz with h' | h'
  · exact h z h'
  · rw [h']; exact hp
set_option maxRecDepth 100000 in
set_option maxHeartbeats 6400000 in
theorem l04Draw_any (g : Nat) (A : Option Addr) (n cap K : Nat) (xs : List Int) (w0 w : World) (h : St g A n cap K w0 w) (hx : BRow w0 A n xs) (hk : K ≤ 500) (hg : w0.heap.size ≤ g) :
    Calls Try.prog 47 #[.pointer (some ⟨g, 0, none⟩)] w fun e w' => (∃ (zs : List (Int × Int)) (B : Option Addr) (c : Nat), e = .returned (.slice B zs.length c) ∧ w'.ownsRow w.heap.size 51 2 (.slice B zs.length c) zs.length (prs zs) ∧ sgnB zs = true) ∧ St g A n cap (K + 60) w0 w' ∧ Kg g w w' := by
  have hgl := h.lt
  have hsz := h.2.size
  have NG := Lib.hid (show ∀ k, w.heap.size ≤ k → k ≠ g from fun k hk => by omega)
  obtain ⟨i0, hi, hz0, hz1, hz2⟩ := info_parts infoS
  have HX := Lib.hid hx
  have H := Lib.hid h
  clear hx h
  go_enter Try.func47, Try.ntmps47
  go_wp2_with fail
  refine (one_any g A n cap K xs 2 w0 w H.out HX.out (by omega) hg (by omega) (by omega)).mono ?_
  rintro e w1 ⟨⟨b, rfl⟩, hs1, hk1⟩
  have H1 := Lib.hid hs1
  have K1 := Lib.hid hk1
  clear hs1 hk1 H
  cases b
  · go_wp2_with fail
    refine (pick_any g A n cap (K + 2) xs 9 w0 w1 H1.out HX.out (by omega) hg (by omega) (by omega)).mono ?_
    rintro e w5 ⟨⟨r5, rfl, a5, b5⟩, hs5, hk5⟩
    have hb5 : w.heap.size ≤ w5.heap.size := (K1.out.trans hk5).1
    have hA : Below w5.heap.size w5 (w5.alloc (.cells #[.int .i64 1, .int .i64 (r5 - 4)] 51)) := (Below.refl _ _).alloc (Nat.le_refl _) _
    have H5 := Lib.hid (hs5.below hA)
    have K5 := Lib.hid ((K1.out.trans hk5).below hA)
    have O5 := Lib.hid (show (w5.alloc (.cells #[.int .i64 1, .int .i64 (r5 - 4)] 51)).ownsRow w.heap.size 51 2 (.slice (some ⟨w5.heap.size, 0, none⟩) 1 1) 1 (prs [(1, r5 - 4)]) from ⟨by simp [prs], .inr ⟨w5.heap.size, 1, #[.int .i64 1, .int .i64 (r5 - 4)], rfl, hb5, heap_alloc_new w5 _, Nat.le_refl _, by decide, rfl, by simp [prs]⟩⟩)
    have S5 := Lib.hid (sgn_one (v := r5 - 4) (by omega) (by omega))
    clear hs5 hk5 hA H1 K1
    go_wp2_with fail
    refine (pick_any g A n cap (K + 2 + 2) xs 7 w0 _ H5.out HX.out (by omega) hg (by omega) (by omega)).mono ?_
    rintro e w6 ⟨⟨r6, rfl, a6, b6⟩, hs6, hk6⟩
    obtain ⟨q, rfl⟩ := Int.eq_ofNat_of_zero_le a6
    have hq : q ≤ 6 := by omega
    have hb6 : w.heap.size ≤ w6.heap.size := by have := hk6.1; simp at this; omega
    have O6 := Lib.hid (own_kg O5.out hk6 hgl)
    have H6 := Lib.hid hs6
    have K6 := Lib.hid (K5.out.trans hk6)
    clear hs6 hk6 H5 K5 O5 a6 b6
    go_wp2_with fail
    go_loopw [7, 8, 9] (fun l u _ wr => ∃ (k r K' c : Nat) (B : Option Addr) (fs : List (Int × Int)), l = .slice B k c ∧ u = .int .i64 (r : Int) ∧ 1 ≤ k ∧ k + r ≤ 7 ∧ K' + 4 * r ≤ K + 44 ∧
      wr.ownsRow w.heap.size 51 2 (.slice B k c) k (prs fs) ∧ St g A n cap K' w0 wr ∧ Kg g w wr ∧ Hid (sgnB fs = true)) (fun _ u _ _ => (intOf u).toNat)
    case atStart => exact ⟨1, q, K + 2 + 4, 1, _, [(1, r5 - 4)], rfl, rfl, by omega, by omega, by omega, O6.out, H6.out, K6.out, S5.out⟩
    case round =>
      obtain ⟨k, r, K', c, B, fs, rfl, rfl, hk1, hkr, hK, hown, hst, hkg, HD⟩ := hrel
      have H10 := Lib.hid hst
      have O10 := Lib.hid hown
      have K10 := Lib.hid hkg
      have l10 := hkg.1
      clear hown hst hkg
      by_cases hr0 : r = 0
      · subst hr0
        have HLn := Lib.hid (own_lenP O10.out)
        go_wp2_with fail
        go_ret
        have hl := HLn.out
        subst hl
        exact ⟨⟨fs, B, c, rfl, O10.out, HD.out⟩, H10.out.mono (by omega), K10.out⟩
      · have hr1 : (0 : Int) < (r : Int) := by omega
        go_wp2_with fail
        refine (pick_any g A n cap _ xs 5 w0 _ H10.out HX.out (by omega) hg (by omega) (by omega)).mono ?_
        rintro e w11 ⟨⟨t, rfl, b1, b2⟩, hs11, hk11⟩
        have hA : Below w11.heap.size w11 (w11.alloc (.cells #[.int .i64 1, .int .i64 (1 + t)] 51)) := (Below.refl _ _).alloc (Nat.le_refl _) _
        have hgs : g < w11.heap.size := hs11.lt
        have H11 := Lib.hid (hs11.below hA)
        have l11 : w.heap.size ≤ w11.heap.size := Nat.le_trans l10 hk11.1
        have o11 := own_kg O10.out hk11 hgl
        have F11 := Lib.hid o11.lt
        have O11 := Lib.hid (own_below o11 hA)
        have K11 := Lib.hid ((K10.out.trans hk11).below hA)
        have P11 := Lib.hid (Pr.new w11 1 (1 + t) 51)
        clear hs11 hk11 H10 O10 K10 o11 hA
        go_wp2_with fail
        refine (one_any g A n cap _ xs 3 w0 _ H11.out HX.out (by omega) hg (by omega) (by omega)).mono ?_
        rintro e w12 ⟨⟨x, rfl⟩, hs12, hk12⟩
        have l12 : w11.heap.size < w12.heap.size := by have := hk12.1; simp at this; omega
        have H12 := Lib.hid hs12
        have O12 := Lib.hid (own_kg O11.out hk12 hgl)
        have K12 := Lib.hid (K11.out.trans hk12)
        have P12 := Lib.hid (P11.out.kg hk12 (by omega))
        have hrb : 1 ≤ 1 + t ∧ 1 + t ≤ 1000000000 := by omega
        have HLn := Lib.hid (own_lenP O12.out)
        clear hs12 hk12 H11 O11 K11 P11
        obtain ⟨p0, p1, pf0, pf1⟩ := P12.out
        cases x
        · have LF := Lib.hid O12.out.lt
          go_wp2_with (first | (at_builtin; refine wpList_append_lies _ rfl (.tmp 44) (.tmp 46) 24 rfl w.heap.size 51 i0 (.agg #[.int .i64 0, .int .i64 0]) 2 16 Try.underlying24 hi hz0 hz1 hz2 rfl (by decide) _ k (prs fs) (by rfl) (O12.out.alloc _) ⟨w12.heap.size, 0, none⟩ 1 1 [.int .i64 1, .int .i64 (1 + t)] (by rfl) rfl ?cells (by simp [Value.oneCell']) (by decide) (by show k + 1 ≤ 9223372036854775807; omega) (by omega) (by simp; omega) (w12.heap.size + 1) (by simp) ?_; rotate_left; intro g cap1 wn hown1 hgrow hat hlt1))
          case cells => exact fun j u hu => newcell (by simp) hu
          rw [show prs fs ++ [Value.int .i64 1, .int .i64 (1 + t)] = prs (fs ++ [(1, 1 + t)]) from by rw [prs_append]; rfl] at hown1
          go_roundw
          case rel =>
            exact ⟨k + 1, r - 1, K' + 4, _, _, fs ++ [(1, 1 + t)], rfl, by congr 1; omega, by omega, by omega, by omega, hown1, ((H12.out.alloc _).grown hgrow (fun e => NG.out _ (LF.out _ e).1 rfl) (fun k hk => by have := (LF.out k hk).1; omega)).mono (by omega), (K12.out.alloc _).grown hgrow (fun k hk => (LF.out k hk).1), sgn_app HD.out (by rw [HLn.out]; omega) (by omega) hrb.1 hrb.2⟩
          case measure => simp [intOf]; omega
        · have O13 := Lib.hid (own_set_other O12.out (p := ⟨w11.heap.size, 0, none⟩) (fun e => by have := (F11.out _ e).2; simp at this) (.int .i64 (-1)))
          have H13 := Lib.hid (H12.out.set (b := w11.heap.size) (by omega) (by have := H12.out.2.size; have := hsz; omega) 0 (.int .i64 (-1)))
          have K13 := Lib.hid (K12.out.other (b := w11.heap.size) l11 0 (.int .i64 (-1)))
          have LF := Lib.hid O13.out.lt
          go_wp2_with (first | (at_builtin; refine wpList_append_lies _ rfl (.tmp 44) (.tmp 46) 24 rfl w.heap.size 51 i0 (.agg #[.int .i64 0, .int .i64 0]) 2 16 Try.underlying24 hi hz0 hz1 hz2 rfl (by decide) _ k (prs fs) (by rfl) (O13.out.alloc _) ⟨w12.heap.size, 0, none⟩ 1 1 [.int .i64 (-1), .int .i64 (1 + t)] (by rfl) rfl ?cells (by simp [Value.oneCell']) (by decide) (by show k + 1 ≤ 9223372036854775807; omega) (by omega) (by simp; omega) (w12.heap.size + 1) (by simp) ?_; rotate_left; intro g cap1 wn hown1 hgrow hat hlt1))
          case cells => exact fun j u hu => newcell (by simp) hu
          rw [show prs fs ++ [Value.int .i64 (-1), .int .i64 (1 + t)] = prs (fs ++ [((-1), 1 + t)]) from by rw [prs_append]; rfl] at hown1
          go_roundw
          case rel =>
            exact ⟨k + 1, r - 1, K' + 4, _, _, fs ++ [((-1), 1 + t)], rfl, by congr 1; omega, by omega, by omega, by omega, hown1, ((H13.out.alloc _).grown hgrow (fun e => NG.out _ (LF.out _ e).1 rfl) (fun k hk => by have := (LF.out k hk).1; omega)).mono (by omega), (K13.out.alloc _).grown hgrow (fun k hk => (LF.out k hk).1), sgn_app HD.out (by rw [HLn.out]; omega) (by omega) hrb.1 hrb.2⟩
          case measure => simp [intOf]; omega
  · go_wp2_with fail
    refine (l02Draw_200 g A n cap (K + 2) xs w0 w1 H1.out HX.out (by omega) hg).mono ?_
    rintro e w2 ⟨⟨x, y, rfl, hd⟩, hs2, hk2⟩
    have H2 := Lib.hid (hs2.alloc (.cells #[.int .i64 x, .int .i64 y] 30))
    have K2 := Lib.hid ((K1.out.trans hk2).alloc (.cells #[.int .i64 x, .int .i64 y] 30))
    have F2 := Lib.hid (Pr.new w2 x y 30)
    have hg2 : g < w2.heap.size := hs2.lt
    clear hs2 hk2 H1 K1 hd
    go_wp2_with fail
    refine (pick_any g A n cap (K + 10) xs 4 w0 _ H2.out HX.out (by omega) hg (by omega) (by omega)).mono ?_
    rintro e w3 ⟨⟨kd, rfl, d0, d1⟩, hs3, hk3⟩
    have H3 := Lib.hid hs3
    have K3 := Lib.hid (K2.out.trans hk3)
    have F3 := Lib.hid (F2.out.kg hk3 (by omega))
    clear hs3 hk3 H2 K2 F2
    obtain ⟨f0, f1, _, _⟩ := F3.out
    have HE := Lib.hid (fun W => specExs_any x y (1 + kd) W)
    unfold ResS at HE
    by_cases hc : exsC x y (1 + kd) = 0
    · have S4 := Lib.hid (exs_sgn hc)
      rw [hc] at HE
      generalize exsL x y (1 + kd) = fs at *
      clear hc
      go_wp2_with fail
      refine (HE.out _).mono ?_
      rintro e w4 ⟨⟨B, c, rfl, ho⟩, hb⟩
      have O4 := Lib.hid (own_base ho K3.out.1)
      have H4 := Lib.hid (H3.out.below hb)
      have K4 := Lib.hid (K3.out.below hb)
      clear ho hb H3 K3
      go_wp2_with fail
      go_ret
      exact ⟨⟨fs, B, c, rfl, O4.out, S4.out⟩, H4.out.mono (by omega), K4.out⟩
    · have hcb : (exsC x y (1 + kd) == 0) = false := beq_eq_false_iff_ne.2 hc
      generalize exsC x y (1 + kd) = cc at *
      generalize exsL x y (1 + kd) = fs at *
      go_wp2_with fail
      refine (HE.out _).mono ?_
      rintro e w4 ⟨⟨B, c, rfl, ho⟩, hb⟩
      have H4 := Lib.hid (H3.out.below hb)
      have K4 := Lib.hid (K3.out.below hb)
      clear ho hb H3 K3 f0 f1 F3
      go_wp2_with fail
      refine (pick_any g A n cap (K + 12) xs 9 w0 w4 H4.out HX.out (by omega) hg (by omega) (by omega)).mono ?_
      rintro e w5 ⟨⟨r5, rfl, a5, b5⟩, hs5, hk5⟩
      have hb5 : w.heap.size ≤ w5.heap.size := (K4.out.trans hk5).1
      have hA : Below w5.heap.size w5 (w5.alloc (.cells #[.int .i64 1, .int .i64 (r5 - 4)] 51)) := (Below.refl _ _).alloc (Nat.le_refl _) _
      have H5 := Lib.hid (hs5.below hA)
      have K5 := Lib.hid ((K4.out.trans hk5).below hA)
      have O5 := Lib.hid (show (w5.alloc (.cells #[.int .i64 1, .int .i64 (r5 - 4)] 51)).ownsRow w.heap.size 51 2 (.slice (some ⟨w5.heap.size, 0, none⟩) 1 1) 1 (prs [(1, r5 - 4)]) from ⟨by simp [prs], .inr ⟨w5.heap.size, 1, #[.int .i64 1, .int .i64 (r5 - 4)], rfl, hb5, heap_alloc_new w5 _, Nat.le_refl _, by decide, rfl, by simp [prs]⟩⟩)
      have S5 := Lib.hid (sgn_one (v := r5 - 4) (by omega) (by omega))
      clear hs5 hk5 hA H4 K4
      go_wp2_with fail
      refine (pick_any g A n cap (K + 12 + 2) xs 7 w0 _ H5.out HX.out (by omega) hg (by omega) (by omega)).mono ?_
      rintro e w6 ⟨⟨r6, rfl, a6, b6⟩, hs6, hk6⟩
      obtain ⟨q, rfl⟩ := Int.eq_ofNat_of_zero_le a6
      have hq : q ≤ 6 := by omega
      have hb6 : w.heap.size ≤ w6.heap.size := by have := hk6.1; simp at this; omega
      have O6 := Lib.hid (own_kg O5.out hk6 hgl)
      have H6 := Lib.hid hs6
      have K6 := Lib.hid (K5.out.trans hk6)
      clear hs6 hk6 H5 K5 O5 a6 b6
      go_wp2_with fail
      go_loopw [7, 8, 9] (fun l u _ wr => ∃ (k r K' c : Nat) (B : Option Addr) (fs : List (Int × Int)), l = .slice B k c ∧ u = .int .i64 (r : Int) ∧ 1 ≤ k ∧ k + r ≤ 7 ∧ K' + 4 * r ≤ K + 44 ∧
        wr.ownsRow w.heap.size 51 2 (.slice B k c) k (prs fs) ∧ St g A n cap K' w0 wr ∧ Kg g w wr ∧ Hid (sgnB fs = true)) (fun _ u _ _ => (intOf u).toNat)
      case atStart => exact ⟨1, q, K + 12 + 4, 1, _, [(1, r5 - 4)], rfl, rfl, by omega, by omega, by omega, O6.out, H6.out, K6.out, S5.out⟩
      case round =>
        obtain ⟨k, r, K', c, B, fs, rfl, rfl, hk1, hkr, hK, hown, hst, hkg, HD⟩ := hrel
        have H10 := Lib.hid hst
        have O10 := Lib.hid hown
        have K10 := Lib.hid hkg
        have l10 := hkg.1
        clear hown hst hkg
        by_cases hr0 : r = 0
        · subst hr0
          have HLn := Lib.hid (own_lenP O10.out)
          go_wp2_with fail
          go_ret
          have hl := HLn.out
          subst hl
          exact ⟨⟨fs, B, c, rfl, O10.out, HD.out⟩, H10.out.mono (by omega), K10.out⟩
        · have hr1 : (0 : Int) < (r : Int) := by omega
          go_wp2_with fail
          refine (pick_any g A n cap _ xs 5 w0 _ H10.out HX.out (by omega) hg (by omega) (by omega)).mono ?_
          rintro e w11 ⟨⟨t, rfl, b1, b2⟩, hs11, hk11⟩
          have hA : Below w11.heap.size w11 (w11.alloc (.cells #[.int .i64 1, .int .i64 (1 + t)] 51)) := (Below.refl _ _).alloc (Nat.le_refl _) _
          have hgs : g < w11.heap.size := hs11.lt
          have H11 := Lib.hid (hs11.below hA)
          have l11 : w.heap.size ≤ w11.heap.size := Nat.le_trans l10 hk11.1
          have o11 := own_kg O10.out hk11 hgl
          have F11 := Lib.hid o11.lt
          have O11 := Lib.hid (own_below o11 hA)
          have K11 := Lib.hid ((K10.out.trans hk11).below hA)
          have P11 := Lib.hid (Pr.new w11 1 (1 + t) 51)
          clear hs11 hk11 H10 O10 K10 o11 hA
          go_wp2_with fail
          refine (one_any g A n cap _ xs 3 w0 _ H11.out HX.out (by omega) hg (by omega) (by omega)).mono ?_
          rintro e w12 ⟨⟨x, rfl⟩, hs12, hk12⟩
          have l12 : w11.heap.size < w12.heap.size := by have := hk12.1; simp at this; omega
          have H12 := Lib.hid hs12
          have O12 := Lib.hid (own_kg O11.out hk12 hgl)
          have K12 := Lib.hid (K11.out.trans hk12)
          have P12 := Lib.hid (P11.out.kg hk12 (by omega))
          have hrb : 1 ≤ 1 + t ∧ 1 + t ≤ 1000000000 := by omega
          have HLn := Lib.hid (own_lenP O12.out)
          clear hs12 hk12 H11 O11 K11 P11
          obtain ⟨p0, p1, pf0, pf1⟩ := P12.out
          cases x
          · have LF := Lib.hid O12.out.lt
            go_wp2_with (first | (at_builtin; refine wpList_append_lies _ rfl (.tmp 44) (.tmp 46) 24 rfl w.heap.size 51 i0 (.agg #[.int .i64 0, .int .i64 0]) 2 16 Try.underlying24 hi hz0 hz1 hz2 rfl (by decide) _ k (prs fs) (by rfl) (O12.out.alloc _) ⟨w12.heap.size, 0, none⟩ 1 1 [.int .i64 1, .int .i64 (1 + t)] (by rfl) rfl ?cells (by simp [Value.oneCell']) (by decide) (by show k + 1 ≤ 9223372036854775807; omega) (by omega) (by simp; omega) (w12.heap.size + 1) (by simp) ?_; rotate_left; intro g cap1 wn hown1 hgrow hat hlt1))
            case cells => exact fun j u hu => newcell (by simp) hu
            rw [show prs fs ++ [Value.int .i64 1, .int .i64 (1 + t)] = prs (fs ++ [(1, 1 + t)]) from by rw [prs_append]; rfl] at hown1
            go_roundw
            case rel =>
              exact ⟨k + 1, r - 1, K' + 4, _, _, fs ++ [(1, 1 + t)], rfl, by congr 1; omega, by omega, by omega, by omega, hown1, ((H12.out.alloc _).grown hgrow (fun e => NG.out _ (LF.out _ e).1 rfl) (fun k hk => by have := (LF.out k hk).1; omega)).mono (by omega), (K12.out.alloc _).grown hgrow (fun k hk => (LF.out k hk).1), sgn_app HD.out (by rw [HLn.out]; omega) (by omega) hrb.1 hrb.2⟩
            case measure => simp [intOf]; omega
          · have O13 := Lib.hid (own_set_other O12.out (p := ⟨w11.heap.size, 0, none⟩) (fun e => by have := (F11.out _ e).2; simp at this) (.int .i64 (-1)))
            have H13 := Lib.hid (H12.out.set (b := w11.heap.size) (by omega) (by have := H12.out.2.size; have := hsz; omega) 0 (.int .i64 (-1)))
            have K13 := Lib.hid (K12.out.other (b := w11.heap.size) l11 0 (.int .i64 (-1)))
            have LF := Lib.hid O13.out.lt
            go_wp2_with (first | (at_builtin; refine wpList_append_lies _ rfl (.tmp 44) (.tmp 46) 24 rfl w.heap.size 51 i0 (.agg #[.int .i64 0, .int .i64 0]) 2 16 Try.underlying24 hi hz0 hz1 hz2 rfl (by decide) _ k (prs fs) (by rfl) (O13.out.alloc _) ⟨w12.heap.size, 0, none⟩ 1 1 [.int .i64 (-1), .int .i64 (1 + t)] (by rfl) rfl ?cells (by simp [Value.oneCell']) (by decide) (by show k + 1 ≤ 9223372036854775807; omega) (by omega) (by simp; omega) (w12.heap.size + 1) (by simp) ?_; rotate_left; intro g cap1 wn hown1 hgrow hat hlt1))
            case cells => exact fun j u hu => newcell (by simp) hu
            rw [show prs fs ++ [Value.int .i64 (-1), .int .i64 (1 + t)] = prs (fs ++ [((-1), 1 + t)]) from by rw [prs_append]; rfl] at hown1
            go_roundw
            case rel =>
              exact ⟨k + 1, r - 1, K' + 4, _, _, fs ++ [((-1), 1 + t)], rfl, by congr 1; omega, by omega, by omega, by omega, hown1, ((H13.out.alloc _).grown hgrow (fun e => NG.out _ (LF.out _ e).1 rfl) (fun k hk => by have := (LF.out k hk).1; omega)).mono (by omega), (K13.out.alloc _).grown hgrow (fun k hk => (LF.out k hk).1), sgn_app HD.out (by rw [HLn.out]; omega) (by omega) hrb.1 hrb.2⟩
            case measure => simp [intOf]; omega
end Go.Proofs.Ytlpglibnjmjjkaa
