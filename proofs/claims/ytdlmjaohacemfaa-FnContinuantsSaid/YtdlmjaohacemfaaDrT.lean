/-
  Drawn terms: contracts of the reference's l03Draw and A2Terms.
  No condition but those of the law's own text.
-/
import Derived.Test.YtdlmjaohacemfaaProg
import Derived.Test.YtdlmjaohacemfaaMem
import Derived.Test.YtdlmjaohacemfaaBasic
import Derived.Test.YtdlmjaohacemfaaSig
import Derived.Test.YtdlmjaohacemfaaFrac
import Derived.Test.YtdlmjaohacemfaaOwn
import Derived.Test.YtdlmjaohacemfaaShort
import Derived.Test.YtdlmjaohacemfaaSrc
import Derived.Handy
import Derived.BigQuiet
import Derived.Deep.QuietTactic
import Derived.Deep.AppendLies
namespace Go.Proofs.Ytdlmjaohacemfaa
open Go.RowKit
set_option linter.unusedVariables false
set_option linter.unusedSimpArgs false
attribute [local go_sem ↓] Go.wp_at_zero Go.wp_at_succ

theorem own_kg {g : Nat} {w w' : World} {base e size n : Nat} {v : Value} {xs : List Value} (h : w.ownsRow base e size v n xs) (hk : Kg g w w') (hg : g < base) : w'.ownsRow base e size v n xs := by
  refine ⟨h.1, ?_⟩
  rcases h.2 with hn | ⟨b, cap, cur, rfl, hbb, hgg, rest⟩
  · exact .inl hn
  · refine .inr ⟨b, cap, cur, rfl, hbb, ?_, rest⟩
    rw [hk.2 b (Array.getElem?_eq_some_iff.1 hgg).1 (by omega)]
    exact hgg
/-- Drawn terms. -/
def DrwT (fs : List Int) : Prop := ∀ (j : Nat) z, fs[j]? = some z → (if j = 0 then -10 else 1) ≤ z ∧ z ≤ 60
theorem DrwT.one {z : Int} (h1 : -10 ≤ z) (h2 : z ≤ 60) : DrwT [z] := fun j y h => by
  cases j with
  | zero => simp at h; subst h; simp; omega
  | succ j => cases h
theorem DrwT.app {fs : List Int} {z : Int} (h : DrwT fs) (hl : 1 ≤ fs.length) (h1 : 1 ≤ z) (h2 : z ≤ 60) : DrwT (fs ++ [z]) := fun j y hy => by
  rw [List.getElem?_append] at hy
  split at hy
  · exact h j y hy
  · rename_i hj
    have : y = z := by
      cases hk : j - fs.length with
      | zero => rw [hk] at hy; simp at hy; exact hy.symm
      | succ i => rw [hk] at hy; simp at hy
    subst this
    rw [if_neg (by omega)]; omega
theorem St.grown {g : Nat} {A : Option Addr} {n cap K : Nat} {w0 w w1 : World} {row : Option Nat} (h : St g A n cap K w0 w) (hg : w.grownBy w1 row) (hr : row ≠ some g) (hB : ∀ k, row = some k → w0.heap.size ≤ k) : St g A n cap K w0 w1 := by
  have hl := h.lt
  obtain ⟨⟨k, h1, c0, c1, f1, f2, s, s0, s1, c2⟩, h3⟩ := h
  have e : w1.heap[g]? = w.heap[g]? := hg.block g hl (fun e => hr e.symm)
  have ec : ∀ o, w1.cell? ⟨g, o, none⟩ = w.cell? ⟨g, o, none⟩ := fun o => World.cell?_of_block (w := w) e
  have ef : ∀ o, w1.frozen? ⟨g, o, none⟩ = w.frozen? ⟨g, o, none⟩ := fun o => World.frozen?_of_block (w := w) e
  exact ⟨⟨k, h1, (ec 0).trans c0, (ec 1).trans c1, (ef 1).trans f1, (ef 2).trans f2, s, s0, s1, (ec 2).trans c2⟩, h3.grown hg h3.size hB⟩
set_option maxRecDepth 100000 in
set_option maxHeartbeats 3200000 in
theorem l03Draw_any (g : Nat) (A : Option Addr) (n cap K : Nat) (xs : List Int) (w0 w : World) (h : St g A n cap K w0 w) (hx : BRow w0 A n xs) (hk : K ≤ 400) (hg : w0.heap.size ≤ g) :
    Calls Try.prog 41 #[.pointer (some ⟨g, 0, none⟩), .int .i64 8] w fun e w' => (∃ (fs : List Int) (B : Option Addr) (c : Nat), e = .returned (.slice B fs.length c) ∧ w'.ownsRow w.heap.size 2 1 (.slice B fs.length c) fs.length (fs.map (Value.int .i64)) ∧ DrwT fs ∧ 1 ≤ fs.length ∧ fs.length ≤ 8) ∧ Below w0.heap.size w0 w' := by
  have hgl := h.lt
  have NG := Lib.hid (show ∀ k, w.heap.size ≤ k → k ≠ g from fun k hk => by omega)
  obtain ⟨i0, hi, hz0, hz1, hz2⟩ := info_parts info_i64
  have HX := Lib.hid hx
  have H := Lib.hid h
  clear hx h
  go_enter Try.func41, Try.ntmps41
  go_wp2_with fail
  refine (pick_any g A n cap K xs 21 w0 _ H.out HX.out (by omega) hg (by omega) (by omega)).mono ?_
  rintro e w1 ⟨⟨r0, rfl, a1, a2⟩, hs1, hk1⟩
  have hb1 : w.heap.size ≤ w1.heap.size := hk1.1
  have hA : Below w1.heap.size w1 (w1.alloc (.cells #[.int .i64 (r0 - 10)] 2)) := (Below.refl _ _).alloc (Nat.le_refl _) _
  have H1 := Lib.hid (hs1.below hA)
  have HO1 := Lib.hid (show (w1.alloc (.cells #[.int .i64 (r0 - 10)] 2)).ownsRow w.heap.size 2 1 (.slice (some ⟨w1.heap.size, 0, none⟩) 1 1) 1 ([r0 - 10].map (Value.int .i64)) from ⟨by simp, .inr ⟨w1.heap.size, 1, #[.int .i64 (r0 - 10)], rfl, hb1, heap_alloc_new w1 _, Nat.le_refl _, by decide, rfl, by simp⟩⟩)
  clear hs1 hk1 hA H
  go_wp2_with fail
  refine (pick_any g A n cap (K + 2) xs 8 w0 _ H1.out HX.out (by omega) hg (by omega) (by omega)).mono ?_
  rintro e w2 ⟨⟨r, rfl, a3, a4⟩, hs2, hk2⟩
  obtain ⟨q, rfl⟩ := Int.eq_ofNat_of_zero_le a3
  have hb2 : w.heap.size ≤ w2.heap.size := by have := hk2.1; simp at this; omega
  have HO2 := Lib.hid (own_kg HO1.out hk2 hgl)
  have H2 := Lib.hid hs2
  have hq : q ≤ 7 := by omega
  clear hs2 hk2 H1 HO1 a3 a4
  go_wp2_with fail
  go_loopw [5, 6, 7] (fun l u t wr => ∃ (k r K' c : Nat) (B : Option Addr) (fs : List Int), l = .slice B k c ∧ u = .int .i64 (r : Int) ∧ 1 ≤ k ∧ k + r ≤ 8 ∧ K' + 20 * r ≤ 700 ∧
    wr.ownsRow w.heap.size 2 1 (.slice B k c) k (fs.map (Value.int .i64)) ∧ St g A n cap K' w0 wr ∧ Hid (DrwT fs) ∧ w.heap.size ≤ wr.heap.size) (fun _ u _ _ => (intOf u).toNat)
  case atStart => exact ⟨1, q, K + 4, 1, _, [r0 - 10], rfl, rfl, by omega, by omega, by omega, HO2.out, H2.out, DrwT.one (by omega) (by omega), hb2⟩
  case round =>
    obtain ⟨k, r, K', c, B, fs, rfl, rfl, hk1, hkr, hK, hown, hst, HD, hbase⟩ := hrel
    have H10 := Lib.hid hst
    have O10 := Lib.hid hown
    have l10 := hbase
    clear hown hst hbase
    by_cases hr0 : r = 0
    · subst hr0
      have HLn := Lib.hid (own_lenI O10.out)
      go_wp2_with fail
      go_ret
      have hl := HLn.out
      subst hl
      exact ⟨⟨fs, B, c, rfl, O10.out, HD.out, by omega, by omega⟩, H10.out.2⟩
    · have hr1 : (0 : Int) < (r : Int) := by omega
      go_wp2_with fail
      refine (pick_any g A n cap _ xs 6 w0 _ H10.out HX.out (by omega) hg (by omega) (by omega)).mono ?_
      rintro e w11 ⟨⟨t, rfl, b1, b2⟩, hs11, hk11⟩
      have H11 := Lib.hid hs11
      have O11 := Lib.hid (own_kg O10.out hk11 hgl)
      have l11 : w.heap.size ≤ w11.heap.size := Nat.le_trans l10 hk11.1
      clear hs11 hk11 H10 O10
      go_wp2_with fail
      refine (one_any g A n cap _ xs 8 w0 _ H11.out HX.out (by omega) hg (by omega) (by omega)).mono ?_
      rintro e w12 ⟨⟨x, rfl⟩, hs12, hk12⟩
      have H12 := Lib.hid hs12
      have O12 := Lib.hid (own_kg O11.out hk12 hgl)
      have l12 : w.heap.size ≤ w12.heap.size := Nat.le_trans l11 hk12.1
      clear hs12 hk12 H11 O11
      cases x
      · go_wp2_with fail
        refine (one_any g A n cap _ xs 3 w0 _ H12.out HX.out (by omega) hg (by omega) (by omega)).mono ?_
        rintro e w13 ⟨⟨y, rfl⟩, hs13, hk13⟩
        have H13 := Lib.hid hs13
        have O13 := Lib.hid (own_kg O12.out hk13 hgl)
        have l13 : w.heap.size ≤ w13.heap.size := Nat.le_trans l12 hk13.1
        clear hs13 hk13 H12 O12
        cases y
        · have LF := Lib.hid O13.out.lt
          have LE := Lib.hid (own_lenI O13.out)
          go_wp2_with (first | (at_builtin; refine wpList_append_lies _ rfl (.tmp 29) (.tmp 31) 34 rfl w.heap.size 2 i0 (.int .i64 0) 1 8 Try.underlying34 hi hz0 hz1 hz2 rfl (by decide) _ k (fs.map (Value.int .i64)) (by rfl) (O13.out.alloc _) ⟨w13.heap.size, 0, none⟩ 1 1 [.int .i64 (1 + t)] (by rfl) rfl ?cells (by simp [Value.oneCell']) (by decide) (by show k + 1 ≤ 9223372036854775807; omega) (by omega) (by simp; omega) (w13.heap.size + 1) (by simp) ?_; rotate_left; intro g cap1 wn hown1 hgrow hat hlt1))
          case cells => exact fun j u hu => newcell (by simp) hu
          go_roundw
          case rel =>
            refine ⟨k + 1, r - 1, K' + 6, _, _, fs ++ [1 + t], rfl, by congr 1; omega, by omega, by omega, by omega, by rw [List.map_append]; exact hown1, ?_, HD.out.app (by rw [LE.out]; omega) (by omega) (by omega), Nat.le_trans l13 (Nat.le_trans (by simp) hgrow.size)⟩
            refine ((H13.out.below ((Below.refl _ _).alloc (Nat.le_refl _) _)).grown hgrow (fun e => NG.out _ (LF.out _ e).1 rfl) (fun k hk => by have := (LF.out k hk).1; omega)).mono (by omega)
          case measure => simp [intOf]; omega
        · have LF := Lib.hid O13.out.lt
          have LE := Lib.hid (own_lenI O13.out)
          go_wp2_with (first | (at_builtin; refine wpList_append_lies _ rfl (.tmp 29) (.tmp 31) 34 rfl w.heap.size 2 i0 (.int .i64 0) 1 8 Try.underlying34 hi hz0 hz1 hz2 rfl (by decide) _ k (fs.map (Value.int .i64)) (by rfl) (O13.out.alloc _) ⟨w13.heap.size, 0, none⟩ 1 1 [.int .i64 (1)] (by rfl) rfl ?cells (by simp [Value.oneCell']) (by decide) (by show k + 1 ≤ 9223372036854775807; omega) (by omega) (by simp; omega) (w13.heap.size + 1) (by simp) ?_; rotate_left; intro g cap1 wn hown1 hgrow hat hlt1))
          case cells => exact fun j u hu => newcell (by simp) hu
          go_roundw
          case rel =>
            refine ⟨k + 1, r - 1, K' + 6, _, _, fs ++ [1], rfl, by congr 1; omega, by omega, by omega, by omega, by rw [List.map_append]; exact hown1, ?_, HD.out.app (by rw [LE.out]; omega) (by omega) (by omega), Nat.le_trans l13 (Nat.le_trans (by simp) hgrow.size)⟩
            refine ((H13.out.below ((Below.refl _ _).alloc (Nat.le_refl _) _)).grown hgrow (fun e => NG.out _ (LF.out _ e).1 rfl) (fun k hk => by have := (LF.out k hk).1; omega)).mono (by omega)
          case measure => simp [intOf]; omega
      · go_wp2_with fail
        refine (pick_any g A n cap _ xs 60 w0 _ H12.out HX.out (by omega) hg (by omega) (by omega)).mono ?_
        rintro e w13 ⟨⟨t2, rfl, b3, b4⟩, hs13, hk13⟩
        have H13 := Lib.hid hs13
        have O13 := Lib.hid (own_kg O12.out hk13 hgl)
        have l13 : w.heap.size ≤ w13.heap.size := Nat.le_trans l12 hk13.1
        clear hs13 hk13 H12 O12
        go_wp2_with fail
        refine (one_any g A n cap _ xs 3 w0 _ H13.out HX.out (by omega) hg (by omega) (by omega)).mono ?_
        rintro e w14 ⟨⟨y, rfl⟩, hs14, hk14⟩
        have H14 := Lib.hid hs14
        have O14 := Lib.hid (own_kg O13.out hk14 hgl)
        have l14 : w.heap.size ≤ w14.heap.size := Nat.le_trans l13 hk14.1
        clear hs14 hk14 H13 O13
        cases y
        · have LF := Lib.hid O14.out.lt
          have LE := Lib.hid (own_lenI O14.out)
          go_wp2_with (first | (at_builtin; refine wpList_append_lies _ rfl (.tmp 29) (.tmp 31) 34 rfl w.heap.size 2 i0 (.int .i64 0) 1 8 Try.underlying34 hi hz0 hz1 hz2 rfl (by decide) _ k (fs.map (Value.int .i64)) (by rfl) (O14.out.alloc _) ⟨w14.heap.size, 0, none⟩ 1 1 [.int .i64 (1 + t2)] (by rfl) rfl ?cells (by simp [Value.oneCell']) (by decide) (by show k + 1 ≤ 9223372036854775807; omega) (by omega) (by simp; omega) (w14.heap.size + 1) (by simp) ?_; rotate_left; intro g cap1 wn hown1 hgrow hat hlt1))
          case cells => exact fun j u hu => newcell (by simp) hu
          go_roundw
          case rel =>
            refine ⟨k + 1, r - 1, K' + 8, _, _, fs ++ [1 + t2], rfl, by congr 1; omega, by omega, by omega, by omega, by rw [List.map_append]; exact hown1, ?_, HD.out.app (by rw [LE.out]; omega) (by omega) (by omega), Nat.le_trans l14 (Nat.le_trans (by simp) hgrow.size)⟩
            refine ((H14.out.below ((Below.refl _ _).alloc (Nat.le_refl _) _)).grown hgrow (fun e => NG.out _ (LF.out _ e).1 rfl) (fun k hk => by have := (LF.out k hk).1; omega)).mono (by omega)
          case measure => simp [intOf]; omega
        · have LF := Lib.hid O14.out.lt
          have LE := Lib.hid (own_lenI O14.out)
          go_wp2_with (first | (at_builtin; refine wpList_append_lies _ rfl (.tmp 29) (.tmp 31) 34 rfl w.heap.size 2 i0 (.int .i64 0) 1 8 Try.underlying34 hi hz0 hz1 hz2 rfl (by decide) _ k (fs.map (Value.int .i64)) (by rfl) (O14.out.alloc _) ⟨w14.heap.size, 0, none⟩ 1 1 [.int .i64 (1)] (by rfl) rfl ?cells (by simp [Value.oneCell']) (by decide) (by show k + 1 ≤ 9223372036854775807; omega) (by omega) (by simp; omega) (w14.heap.size + 1) (by simp) ?_; rotate_left; intro g cap1 wn hown1 hgrow hat hlt1))
          case cells => exact fun j u hu => newcell (by simp) hu
          go_roundw
          case rel =>
            refine ⟨k + 1, r - 1, K' + 8, _, _, fs ++ [1], rfl, by congr 1; omega, by omega, by omega, by omega, by rw [List.map_append]; exact hown1, ?_, HD.out.app (by rw [LE.out]; omega) (by omega) (by omega), Nat.le_trans l14 (Nat.le_trans (by simp) hgrow.size)⟩
            refine ((H14.out.below ((Below.refl _ _).alloc (Nat.le_refl _) _)).grown hgrow (fun e => NG.out _ (LF.out _ e).1 rfl) (fun k hk => by have := (LF.out k hk).1; omega)).mono (by omega)
          case measure => simp [intOf]; omega
theorem a2Terms_any (A : Option Addr) (n cap : Nat) (xs : List Int) (w : World) (hx : BRow w A n xs) :
    Calls Try.prog 12 #[.slice A n cap] w fun e w' => (∃ (fs : List Int) (B : Option Addr) (c : Nat), e = .returned (.slice B fs.length c) ∧ w'.ownsRow w.heap.size 2 1 (.slice B fs.length c) fs.length (fs.map (Value.int .i64)) ∧ DrwT fs ∧ 1 ≤ fs.length ∧ fs.length ≤ 8) ∧ Below w.heap.size w w' := by
  have HX := Lib.hid hx
  clear hx
  go_enter Try.func12, Try.ntmps12
  go_wp2_with fail
  refine (l00From_any A n cap w).mono ?_
  rintro e w1 ⟨rfl, hs1⟩
  have H1 := Lib.hid hs1
  have hs := hs1.2.size
  clear hs1
  go_wp2_with fail
  refine (l03Draw_any w.heap.size A n cap 0 xs w w1 H1.out HX.out (by omega) (Nat.le_refl _)).mono ?_
  rintro e w2 ⟨⟨fs, B, c, rfl, ho, hd, h1, h2⟩, hb⟩
  have HO := Lib.hid ho
  clear ho
  go_wp2_with fail
  go_ret
  exact ⟨⟨fs, B, c, rfl, own_base HO.out hs, hd, h1, h2⟩, hb⟩
end Go.Proofs.Ytdlmjaohacemfaa
