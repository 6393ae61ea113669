/-
  The draws of the laws on terms with signs; the laws' comparisons of lists.
  No condition but those of the law's own text.
-/
import Derived.Test.YtlpglibnjmjjkaaProg
import Derived.Test.YtlpglibnjmjjkaaMem
import Derived.Test.YtlpglibnjmjjkaaBasic
import Derived.Test.YtlpglibnjmjjkaaAllk
import Derived.Test.YtlpglibnjmjjkaaFrac
import Derived.Test.YtlpglibnjmjjkaaFrac3
import Derived.Test.YtlpglibnjmjjkaaMarks
import Derived.Test.YtlpglibnjmjjkaaInts
import Derived.Test.YtlpglibnjmjjkaaSig
import Derived.Test.YtlpglibnjmjjkaaSgn
import Derived.Test.YtlpglibnjmjjkaaOwn
import Derived.Test.YtlpglibnjmjjkaaExp
import Derived.Test.YtlpglibnjmjjkaaKnd
import Derived.Test.YtlpglibnjmjjkaaSrc
import Derived.Test.YtlpglibnjmjjkaaDrw
import Derived.Test.YtlpglibnjmjjkaaDrT
import Derived.Test.YtlpglibnjmjjkaaSgd
import Derived.Test.YtlpglibnjmjjkaaSge
import Derived.Test.YtlpglibnjmjjkaaSgf
import Derived.Handy
import Derived.BigQuiet
import Derived.RegionTactic
import Derived.BigRegion
import Derived.Deep.QuietTactic
import Derived.Deep.RegionHeld3
import Derived.Deep.DrawnRows
import Derived.Deep.AppendLies
namespace Go.Proofs.Ytlpglibnjmjjkaa
open Go.RowKit
set_option linter.unusedVariables false
set_option linter.unusedSimpArgs false
attribute [local go_sem ↓] Go.wp_at_zero Go.wp_at_succ

theorem Pr.alloc {w : World} {b : Nat} {x y : Int} (h : Pr w b x y) (o : Obj) : Pr (w.alloc o) b x y := h.below ((Below.refl _ _).alloc (Nat.le_refl _) o)
theorem Below.al {B : Nat} {w w' : World} (h : Below B w w') (hs : B ≤ w.heap.size) (o : Obj) : Below B w (w'.alloc o) := h.alloc (Nat.le_trans hs h.size) o
theorem drawCvg_any (A : Option Addr) (n cap : Nat) (xs : List Int) (w : World) (hx : BRow w A n xs) :
    Calls Try.prog 5 #[.slice A n cap] w fun e w' => (∃ (zs : List (Int × Int)) (B : Option Addr) (m c : Nat), e = .returned (.slice B m c) ∧ PRow w' B m zs ∧ m ≤ c ∧ m ≤ 61) ∧ Below w.heap.size w w' := by
  have HX := Lib.hid hx
  clear hx
  go_enter Try.func5, Try.ntmps5
  go_wp2_with fail
  refine (l00From_any A n cap w).mono ?_
  rintro e w1 ⟨rfl, hs1⟩
  have H1 := Lib.hid hs1
  clear hs1
  go_wp2_with fail
  refine (l04Bent_any w.heap.size A n cap 0 xs w w1 H1.out HX.out (by omega) (Nat.le_refl _)).mono ?_
  rintro e w2 ⟨⟨zs, B, c, rfl, ho, hr, hl⟩, hs2, _⟩
  have HO := Lib.hid (PRow.of_own ho (by omega) hr)
  have HC := Lib.hid (own_cap ho)
  have HB := Lib.hid hs2.2
  clear ho hs2
  go_wp2_with fail
  go_ret
  exact ⟨⟨zs, B, zs.length, c, rfl, HO.out, HC.out, hl⟩, HB.out⟩
set_option maxRecDepth 100000 in
set_option maxHeartbeats 1600000 in
theorem drawLen_any (A : Option Addr) (n cap : Nat) (xs : List Int) (w : World) (hx : BRow w A n xs) :
    Calls Try.prog 11 #[.slice A n cap] w fun e w' => (∃ x y : Int, e = .returned (.agg #[.int .i64 x, .int .i64 y]) ∧ Rng x ∧ Rng y) ∧ Below w.heap.size w w' := by
  obtain ⟨w0, hw0⟩ : ∃ w0, w0 = w.alloc (.cells #[.int .i64 0, .int .i64 0] 30) := ⟨_, rfl⟩
  have hB0 : Below w.heap.size w w0 := by rw [hw0]; exact (Below.refl _ _).alloc (Nat.le_refl _) _
  have hS0 : w0.heap.size = w.heap.size + 1 := by rw [hw0]; simp
  have hP0 : Pr w0 w.heap.size 0 0 := by rw [hw0]; exact Pr.new w 0 0 _
  have HX := Lib.hid (hx.below hB0)
  have Z0 := Lib.hid hP0
  have HB0 := Lib.hid hB0
  have HW := Lib.hid hw0.symm
  have HS := Lib.hid hS0
  clear hx hw0 hP0 hB0 hS0
  go_enter Try.func11, Try.ntmps11
  go_wp2_with fail
  rw [HW.out]
  refine (l00From_any A n cap w0).mono ?_
  rintro e w1 ⟨rfl, hs1⟩
  have H1 := Lib.hid hs1
  have Z1 := Lib.hid (Z0.out.below hs1.2)
  clear hs1 Z0
  go_wp2_with fail
  refine (l02Bent_any w0.heap.size A n cap 0 xs w0 w1 H1.out HX.out (by omega) (Nat.le_refl _)).mono ?_
  rintro e w2 ⟨⟨x, y, rfl, hx, hy⟩, hs2, hk2⟩
  have Z2 := Lib.hid (Z1.out.kg hk2 (by have := HS.out; omega))
  have HB := Lib.hid (HB0.out.trans (hs2.2.mono (by have := HS.out; omega)))
  have HXY := Lib.hid (show Rng x ∧ Rng y from ⟨hx, hy⟩)
  clear hs2 hk2 H1 Z1 hx hy
  obtain ⟨z0, z1, zf0, zf1⟩ := Z2.out
  go_wp2_with fail
  exact bodyPost_ret (v := .agg #[.int .i64 x, .int .i64 y]) (by simp [results, Try.results11, go_sem, pair_set z0 z1]) rfl ⟨⟨x, y, rfl, HXY.out.1, HXY.out.2⟩, (HB.out.setCell (p := ⟨w.heap.size, 0, none⟩) (Nat.le_refl _) _).setCell (p := ⟨w.heap.size, 1, none⟩) (Nat.le_refl _) _⟩
set_option maxRecDepth 100000 in
set_option maxHeartbeats 1600000 in
theorem drawSft_any (A : Option Addr) (n cap : Nat) (xs : List Int) (w : World) (hx : BRow w A n xs) :
    Calls Try.prog 14 #[.slice A n cap] w fun e w' => (∃ (zs : List Int) (B : Option Addr) (m c : Nat) (kd : Int), e = .returned (.tuple #[.slice B m c, .int .i64 kd]) ∧ IRow w' B m zs ∧ m ≤ c ∧ m ≤ 500) ∧ Below w.heap.size w w' := by
  obtain ⟨i0, hi, hz0, hz1, hz2⟩ := info_parts info_i64
  have HX := Lib.hid hx
  clear hx
  go_enter Try.func14, Try.ntmps14
  go_wp2_with fail
  refine (l00From_any A n cap w).mono ?_
  rintro e w1 ⟨rfl, hs1⟩
  have H1 := Lib.hid hs1
  have hg1 := hs1.lt
  clear hs1
  go_wp2_with fail
  refine (l02Draw_400 w.heap.size A n cap 0 xs w w1 H1.out HX.out (by omega) (Nat.le_refl _)).mono ?_
  rintro e w2 ⟨⟨x, y, rfl, hv, x1, x2, y2⟩, hs2, hk2⟩
  obtain ⟨y1, _⟩ := vfB_iff.1 hv
  obtain ⟨d, rfl⟩ : ∃ d : Nat, y = d := ⟨y.toNat, by omega⟩
  have H2 := Lib.hid hs2
  have hg2 := hs2.lt
  have HL := Lib.hid (fun W => l03Terms_any x d W (by omega) (by omega) (by omega))
  have hln := expN_len d x
  have hrn := expN_rng d x (by omega) (by omega) (by omega)
  have HR := Lib.hid (show ∀ z ∈ expN x d, Rng z from fun z hz => by have := hrn z hz; unfold Rng; omega)
  unfold RetI at HL
  generalize expN x d = fs at *
  obtain ⟨N, hN⟩ : ∃ N, fs.length = N := ⟨_, rfl⟩
  rw [hN] at HL hln
  have HN := Lib.hid hN
  clear hs2 hk2 H1 hv hrn hN
  go_wp2_with fail
  refine (HL.out _).mono ?_
  rintro e w3 ⟨⟨B, c, rfl, ho⟩, hb⟩
  have H3 := Lib.hid (H2.out.below hb)
  have O3 := Lib.hid ho
  have hg3 : w2.heap.size ≤ w3.heap.size := hb.size
  clear ho hb H2 HL
  go_wp2_with fail
  refine (pick_any w.heap.size A n cap 8 xs 16 w w3 H3.out HX.out (by omega) (Nat.le_refl _) (by omega) (by omega)).mono ?_
  rintro e w4 ⟨⟨r, rfl, r0, r1⟩, hs4, hk4⟩
  have H4 := Lib.hid hs4
  have O4 := Lib.hid (own_kg O3.out hk4 hg2)
  have hg4 : w3.heap.size ≤ w4.heap.size := hk4.1
  clear hs4 hk4 H3 O3
  rcases (by omega : r = 0 ∨ r = 1 ∨ (r ≠ 0 ∧ r ≠ 1)) with rfl | rfl | ⟨e0, e1⟩
  · go_wp2_with fail
    refine (among_any w.heap.size A n cap 10 xs (some ⟨w4.heap.size, 0, none⟩) 3 3 [0, 1, 1000000000] w _ (H4.out.alloc _) HX.out (by omega) (Nat.le_refl _) (by omega) (by omega) (irow_new w4 _ _ _ 3 rfl rfl (by omega) (rng_all (by decide))) (fun ad h => by injection h with h; subst h; simp; omega)).mono ?_
    rintro e w5 ⟨⟨z, rfl, _, hz⟩, hs5, hk5⟩
    have hA : Below w4.heap.size w4 (w4.alloc (.cells #[.int .i64 0, .int .i64 1, .int .i64 1000000000] 2)) := (Below.refl _ _).alloc (Nat.le_refl _) _
    have H5 := Lib.hid hs5
    have O5 := Lib.hid (own_kg (own_below O4.out hA) hk5 hg2)
    have HZ := Lib.hid hz
    have LF := Lib.hid O5.out.lt
    have hg5 : w4.heap.size < w5.heap.size := by have := hk5.1; simp at this; omega
    clear hs5 hk5 H4 O4 hA hz
    go_wp2_with (first | (at_builtin; refine wpList_append_lies _ rfl (.tmp 15) (.tmp 19) 33 rfl w2.heap.size 2 i0 (.int .i64 0) 1 8 Try.underlying33 hi hz0 hz1 hz2 rfl (by decide) _ N (fs.map (Value.int .i64)) (by rfl) (O5.out.alloc _) ⟨w5.heap.size, 0, none⟩ 1 1 [.int .i64 z] (by rfl) rfl ?cells (by simp [Value.oneCell']) (by decide) (by show N + 1 ≤ 9223372036854775807; omega) (by omega) (by simp; omega) (w5.heap.size + 1) (by simp) ?_; rotate_left; intro g cap1 wn hown1 hgrow hat hlt1))
    case cells => exact fun j u hu => newcell (by simp) hu
    rw [show (fs.map (Value.int .i64) ++ [Value.int .i64 z]) = (fs ++ [z]).map (Value.int .i64) from by rw [List.map_append]; rfl] at hown1
    have H6 := Lib.hid ((H5.out.alloc _).grown hgrow (fun e => by have := (LF.out _ e).1; omega) (fun k hk => by have := (LF.out k hk).1; omega))
    have O6 := Lib.hid hown1
    have HR6 := Lib.hid (show ∀ u ∈ fs ++ [z], Rng u from fun u hu => by
      rcases List.mem_append.1 hu with h | h
      · exact HR.out u h
      · simp at h; rw [h]; exact HZ.out)
    clear hown1 hgrow hat
    refine (l04DrawKind_any w.heap.size A n cap 12 xs w _ H6.out HX.out (by omega) (Nat.le_refl _)).mono ?_
    rintro e w9 ⟨⟨kd, rfl, _⟩, hs9, hk9⟩
    have O9 := Lib.hid (own_kg O6.out hk9 hg2)
    have HB := Lib.hid hs9.2
    clear hs9 hk9
    go_wp2_with fail
    go_ret2
    exact ⟨⟨fs ++ [z], _, (N + 1), _, kd, rfl, IRow.of_own O9.out (by omega) HR6.out, own_cap O9.out, by omega⟩, HB.out⟩
  · have ho := World.ownsRow_made (base := w2.heap.size) (e := 2) (size := 1) w4 #[] 0 (by omega) (by decide) rfl
    have HO := Lib.hid ho
    clear ho
    go_wp2_with fail
    refine (l04DrawKind_any w.heap.size A n cap 10 xs w _ (H4.out.alloc _) HX.out (by omega) (Nat.le_refl _)).mono ?_
    rintro e w9 ⟨⟨kd, rfl, _⟩, hs9, hk9⟩
    have O9 := Lib.hid (own_kg (show World.ownsRow _ _ _ _ _ 0 (([] : List Int).map (Value.int .i64)) from HO.out) hk9 hg2)
    have HB := Lib.hid hs9.2
    clear hs9 hk9
    go_wp2_with fail
    go_ret2
    exact ⟨⟨[], _, 0, _, kd, rfl, IRow.of_own O9.out (by omega) (fun z hz => by cases hz), own_cap O9.out, by omega⟩, HB.out⟩
  · have b0 : (r == 0) = false := beq_eq_false_iff_ne.2 e0
    have b1 : (r == 1) = false := beq_eq_false_iff_ne.2 e1
    go_wp2_with fail
    refine (l04DrawKind_any w.heap.size A n cap 10 xs w _ H4.out HX.out (by omega) (Nat.le_refl _)).mono ?_
    rintro e w9 ⟨⟨kd, rfl, _⟩, hs9, hk9⟩
    have O9 := Lib.hid (own_kg O4.out hk9 hg2)
    have HB := Lib.hid hs9.2
    clear hs9 hk9
    go_wp2_with fail
    go_ret2
    exact ⟨⟨fs, _, N, _, kd, rfl, IRow.of_own O9.out (by omega) HR.out, own_cap O9.out, by omega⟩, HB.out⟩
theorem f6ints_same (A : Option Addr) (n cap : Nat) (A' : Option Addr) (cap' : Nat) (zs : List Int) (w : World) (h : IRow w A n zs) (h' : IRow w A' n zs) :
    Calls Try.prog 18 #[.slice A n cap, .slice A' n cap'] w fun e w' => e = .returned (.bool true) ∧ Below w.heap.size w w' := by
  have hbd := h.bd
  have hw := Lib.hid h; clear h
  have hw' := Lib.hid h'; clear h'
  go_enter Try.func18, Try.ntmps18
  go_wp2
  go_loopw [5] (fun i wr => ∃ k : Nat, k ≤ n ∧ i = .int .i64 k ∧ Below w.heap.size w wr) (fun i _ => n - (intOf i).toNat)
  case atStart => exact ⟨0, Nat.zero_le _, rfl, Below.refl _ _⟩
  case round =>
    obtain ⟨k, hk, rfl, hb⟩ := hrel
    by_cases hlt : k < n
    · obtain ⟨ad, z, rfl, hz, z1, z2, hc⟩ := (hw.out.below hb).at_ hlt
      obtain ⟨ad', z', rfl, hz', z1', z2', hc'⟩ := (hw'.out.below hb).at_ hlt
      rw [hz] at hz'; injection hz' with hz'; subst hz'
      have HZ := Lib.hid hz; clear hz
      have hb0 : (0 : Int) ≤ (k : Int) := by omega
      have hb1 : (k : Int) < (n : Int) := by omega
      go_wp2
      go_quiet (fail)
      go_wp2
      go_roundw
      case rel => exact ⟨k + 1, by omega, by go_num, hb.trans ⟨rfl, rfl, rfl, Nat.le_refl _, fun _ _ => rfl⟩⟩
      case measure => simp [intOf]; omega
    · obtain rfl : n = k := by omega
      go_wp2
      go_ret
      exact ⟨rfl, hb⟩
theorem f6fractions_same (A : Option Addr) (n cap : Nat) (A' : Option Addr) (cap' : Nat) (zs : List (Int × Int)) (w : World) (h : PRow w A n zs) (h' : PRow w A' n zs) :
    Calls Try.prog 17 #[.slice A n cap, .slice A' n cap'] w fun e w' => e = .returned (.bool true) ∧ Below w.heap.size w w' := by
  have hbd := h.bd
  have hw := Lib.hid h; clear h
  have hw' := Lib.hid h'; clear h'
  go_enter Try.func17, Try.ntmps17
  go_wp2
  go_loopw [5] (fun i wr => ∃ k : Nat, k ≤ n ∧ i = .int .i64 k ∧ Below w.heap.size w wr) (fun i _ => n - (intOf i).toNat)
  case atStart => exact ⟨0, Nat.zero_le _, rfl, Below.refl _ _⟩
  case round =>
    obtain ⟨k, hk, rfl, hb⟩ := hrel
    by_cases hlt : k < n
    · obtain ⟨bb, o, x, y, rfl, hz, x1, x2, y1, y2, hc1, hc2⟩ := (hw.out.below hb).at_ hlt
      obtain ⟨bb', o', x', y', rfl, hz', _, _, _, _, hc1', hc2'⟩ := (hw'.out.below hb).at_ hlt
      rw [hz] at hz'; injection hz' with hz'; injection hz' with e1 e2; subst e1 e2
      clear hz
      have hb0 : (0 : Int) ≤ (k : Int) := by omega
      have hb1 : (k : Int) < (n : Int) := by omega
      go_wp2
      go_quiet (fail)
      go_wp2
      go_roundw
      case rel => exact ⟨k + 1, by omega, by go_num, hb.trans ⟨rfl, rfl, rfl, Nat.le_refl _, fun _ _ => rfl⟩⟩
      case measure => simp [intOf]; omega
    · obtain rfl : n = k := by omega
      go_wp2
      go_ret
      exact ⟨rfl, hb⟩
end Go.Proofs.Ytlpglibnjmjjkaa
