/-
  Fractions at the ends of paths: contracts of the program's and of the reference's functions; the walk of the law FnExactFractionAtPath.
  No condition but those of the law's own text.
-/
import Derived.Test.YtjkonkoiofhefaaProg
import Derived.Test.YtjkonkoiofhefaaMem
import Derived.Test.YtjkonkoiofhefaaBasic
import Derived.Test.YtjkonkoiofhefaaAllk
import Derived.Test.YtjkonkoiofhefaaInts
import Derived.Test.YtjkonkoiofhefaaFrac
import Derived.Test.YtjkonkoiofhefaaFrac2
import Derived.Test.YtjkonkoiofhefaaFrac3
import Derived.Test.YtjkonkoiofhefaaPath
import Derived.Test.YtjkonkoiofhefaaMarks
import Derived.Test.YtjkonkoiofhefaaOwn
import Derived.Test.YtjkonkoiofhefaaShort
import Derived.Test.YtjkonkoiofhefaaCvg
import Derived.Test.YtjkonkoiofhefaaCvgL
import Derived.Test.YtjkonkoiofhefaaVal
import Derived.Handy
import Derived.BigQuiet
import Derived.Deep.QuietTactic
import Derived.Deep.AppendLies
namespace Go.Proofs.Ytjkonkoiofhefaa
open Go.RowKit
set_option linter.unusedVariables false
set_option linter.unusedSimpArgs false
attribute [local go_sem ↓] Go.wp_at_zero Go.wp_at_succ

/-- The terms of the fraction at the end of a path. -/
def incL (zs : List Int) : List Int := if zs.length = 0 then [1] else zs.set (zs.length - 1) (zs.getD (zs.length - 1) 0 + 1)
/-- The fraction at the end of a path, and whether it is plain. -/
def fatT (zs : List Int) : Int × Int × Bool := if cvgB (incL zs) = true then ((lastP (cvgL (incL zs))).1, (lastP (cvgL (incL zs))).2, true) else (0, 0, false)
theorem incL_nil : fatT [] = (1, 1, true) := by
  have h : cvgO [1] 1 0 0 1 = some [(1, 1)] := by
    have hv : vfB (1 * 1 + 0) (1 * 0 + 1) = true := by decide
    rw [cvgO, if_pos hv]; rfl
  obtain ⟨h1, h2⟩ := cvg_some h
  unfold fatT
  rw [show incL [] = [1] from rfl, h1, h2]; rfl
theorem incL_at {zs : List Int} {n : Nat} {z : Int} (hl : zs.length = n) (hn : 1 ≤ n) (hz : zs[n - 1]? = some z) : incL zs = zs.set (n - 1) (z + 1) := by
  unfold incL
  rw [if_neg (by omega), hl, List.getD_eq_getElem?_getD, hz]; rfl
theorem incL_in {zs : List Int} {n : Nat} {z : Int} (hz : zs[n - 1]? = some z) (h : ∀ z ∈ zs, -1000000001 ≤ z ∧ z ≤ 1000000001) : ∀ x ∈ zs.set (n - 1) (z + 1), -2000000000 ≤ x ∧ x ≤ 2000000000 := by
  intro x hx
  rcases List.mem_or_eq_of_mem_set hx with h1 | h1
  · have := h x h1; omega
  · have := h z (List.mem_of_getElem? hz); omega

set_option maxRecDepth 100000 in
set_option maxHeartbeats 3200000 in
theorem fractionAt_any (A : Option Addr) (n cap : Nat) (zs : List Int) (w : World) (h : IRow w A n zs) (hn : n ≤ 1048576) (hzb : ∀ z ∈ zs, -1000000001 ≤ z ∧ z ≤ 1000000001) :
    Calls Try.prog 68 #[.slice A n cap] w fun e w' => e = .returned (.tuple #[.agg #[.int .i64 (fatT zs).1, .int .i64 (fatT zs).2.1], .bool (fatT zs).2.2]) ∧ Below w.heap.size w w' := by
  have hl := h.len
  rcases Nat.eq_zero_or_pos n with h0 | hpos
  · subst h0
    have hzs : zs = [] := List.eq_nil_of_length_eq_zero hl
    subst hzs
    rw [incL_nil]
    have hc : cvgO [1] 1 0 0 1 = some [(1, 1)] := by
      have hv : vfB (1 * 1 + 0) (1 * 0 + 1) = true := by decide
      rw [cvgO, if_pos hv]; rfl
    obtain ⟨e1, e2⟩ := cvg_some hc
    have hrow : IRow ((w.alloc (.cells #[.int .i64 0, .int .i64 0] 25)).alloc (.cells #[.int .i64 1] 2)) (some ⟨w.heap.size + 1, 0, none⟩) 1 [1] := by
      refine ⟨rfl, by omega, fun z hz => by simp at hz; subst hz; unfold Rng; omega, fun j u hu => ⟨_, rfl, ?_⟩⟩
      exact newcell (by simp) hu
    have HC := Lib.hid (convergents_any (some ⟨w.heap.size + 1, 0, none⟩) 1 1 [1] _ hrow (by omega) (fun z hz => by simp at hz; subst hz; omega))
    rw [e1, e2] at HC
    unfold ResFb at HC
    clear hc e1 e2 hrow h hzb hl
    go_enter Try.func68, Try.ntmps68
    go_wp2_with fail
    refine HC.out.mono ?_
    rintro e w1 ⟨⟨B, c, rfl, ho⟩, hb1⟩
    obtain ⟨g, rfl, hg1, hg2⟩ := own_some ho (by simp)
    obtain ⟨k0, k1⟩ := own_cellP (k := 0) (z := (1, 1)) ho rfl
    simp only [Nat.zero_mul, Nat.zero_add] at k0 k1
    obtain ⟨hc1, hf1, hs1⟩ := keepc hb1
    have hB1 : Below w.heap.size w w1 := Below.trans (by go_grown) (hb1.mono (by simp; omega))
    have hl1 : w.heap.size < w1.heap.size := by simp at hs1; omega
    have z0 : w1.cell? ⟨w.heap.size, 0, none⟩ = some (.int .i64 0) := by rw [hc1 _ _ (by simp; omega)]; simp [go_sem]
    have z1 : w1.cell? ⟨w.heap.size, 1, none⟩ = some (.int .i64 0) := by rw [hc1 _ _ (by simp; omega)]; simp [go_sem]
    clear ho hb1 HC
    go_wp2_with fail
    exact bodyPost_ret (v := .tuple #[.agg #[.int .i64 1, .int .i64 1], .bool true]) (by simp [results, Try.results68, go_sem, pair_set z0 z1]) rfl ⟨rfl, (hB1.setCell (p := ⟨w.heap.size, 0, none⟩) (Nat.le_refl _) _).setCell (p := ⟨w.heap.size, 1, none⟩) (Nat.le_refl _) _⟩
  · obtain ⟨ad, z, rfl, hz, z1, z2, hc⟩ := h.at_ (k := n - 1) (by omega)
    obtain ⟨b1, b2⟩ := hzb z (List.mem_of_getElem? hz)
    have hin := incL_in hz hzb
    unfold fatT
    rw [incL_at hl hpos hz]
    have hlen : (zs.set (n - 1) (z + 1)).length = n := by simp [hl]
    have hfull : cvgB (zs.set (n - 1) (z + 1)) = true → (cvgL (zs.set (n - 1) (z + 1))).length = n := fun hb => (cvg_full hb).trans hlen
    obtain ⟨i0, hi, hz0, hz1, hz2⟩ := info_parts info_i64
    have hown0 : (((w.alloc (.cells #[.int .i64 0, .int .i64 0] 25)).alloc (.cells #[.int .i64 1] 2)).alloc (.cells #[] 2)).ownsRow w.heap.size 2 1 (.slice (some ⟨w.heap.size + 1 + 1, 0, none⟩) 0 0) 0 [] := by
      have := World.ownsRow_made (base := w.heap.size) (e := 2) (size := 1) ((w.alloc (.cells #[.int .i64 0, .int .i64 0] 25)).alloc (.cells #[.int .i64 1] 2)) #[] 0 (by simp; omega) (by decide) rfl
      simpa using this
    have HO := Lib.hid hown0
    have HL := Lib.hid hl
    have HZ := Lib.hid hz
    have HI := Lib.hid hin
    have HW := Lib.hid (((h.alloc (.cells #[.int .i64 0, .int .i64 0] 25)).alloc (.cells #[.int .i64 1] 2)).alloc (.cells #[] 2))
    have HF := Lib.hid hfull
    clear hown0 h hl hz hin hc hzb hlen hfull
    cases hb : cvgB (zs.set (n - 1) (z + 1))
    · rw [if_neg (by simp)]
      have HB := Lib.hid hb
      clear hb
      go_enter Try.func68, Try.ntmps68
      go_wp2_with (first | (at_builtin; refine wpList_append_lies _ rfl (.tmp 11) (.tmp 12) 37 rfl w.heap.size 2 i0 (.int .i64 0) 1 8 Try.underlying37 hi hz0 hz1 hz2 rfl (by decide) _ 0 [] (by rfl) HO.out ad n cap (zs.map (Value.int .i64)) (by rfl) ?len ?cells ?one (by omega) (by show 0 + n ≤ 9223372036854775807; omega) (by omega) (by simp; omega) (w.heap.size + 1 + 1 + 1) (by simp) ?_; rotate_left; rotate_left; rotate_left; intro g cap1 wn hown1 hgrow hat hlt1; simp only [Nat.zero_add, List.nil_append] at hown1; have hcell := own_cellI hown1 HZ.out; have hfr := hown1.frozenAt (n - 1); have HS := Lib.hid (own_setI hown1 (n - 1) (z + 1)); have hgb := (hown1.lt g rfl).1; clear hown1))
      case len => rw [List.length_map, HL.out, Nat.mul_one]
      case cells =>
        intro j u hu
        obtain ⟨ad', e, hc⟩ := HW.out.2.2.2 j u hu
        injection e with e
        subst e
        exact hc
      case one =>
        intro u hu
        obtain ⟨_, _, rfl⟩ := List.mem_map.1 hu
        rfl
      have hbn : Below w.heap.size w wn := (by go_grown : Below w.heap.size w (((w.alloc (.cells #[.int .i64 0, .int .i64 0] 25)).alloc (.cells #[.int .i64 1] 2)).alloc (.cells #[] 2))).grown hgrow (by simp; omega) (fun k hk => by simp [Value.ownBlock] at hk; omega)
      have hb2 : Below w.heap.size w (wn.setCell ⟨g, n - 1, none⟩ (.int .i64 (z + 1))) := hbn.setCell (p := ⟨g, n - 1, none⟩) hgb _
      have hsn : w.heap.size + 1 + 1 + 1 ≤ wn.heap.size := by have := hgrow.size; simpa using this
      have hne : g ≠ w.heap.size := by
        rcases hat with h | h
        · simp [Value.ownBlock] at h; omega
        · omega
      have z0 : wn.cell? ⟨w.heap.size, 0, none⟩ = some (.int .i64 0) := by rw [hgrow.cell_far _ (by simp; omega) (by simp [Value.ownBlock]; omega)]; simp [go_sem]
      have z1 : wn.cell? ⟨w.heap.size, 1, none⟩ = some (.int .i64 0) := by rw [hgrow.cell_far _ (by simp; omega) (by simp [Value.ownBlock]; omega)]; simp [go_sem]
      have e0 : wn.frozen? ⟨w.heap.size, 0, none⟩ = false := by rw [hgrow.frozen_far _ (by simp; omega) (by simp [Value.ownBlock]; omega)]; simp [go_sem]
      have e1 : wn.frozen? ⟨w.heap.size, 1, none⟩ = false := by rw [hgrow.frozen_far _ (by simp; omega) (by simp [Value.ownBlock]; omega)]; simp [go_sem]
      replace z0 := setO (a := ⟨g, n - 1, none⟩) (v := .int .i64 (z + 1)) (by simp [hne]) z0
      replace z1 := setO (a := ⟨g, n - 1, none⟩) (v := .int .i64 (z + 1)) (by simp [hne]) z1
      replace e0 := setF (a := ⟨g, n - 1, none⟩) (v := .int .i64 (z + 1)) e0
      replace e1 := setF (a := ⟨g, n - 1, none⟩) (v := .int .i64 (z + 1)) e1
      have HC := Lib.hid (convergents_any (some ⟨g, 0, none⟩) n cap1 (zs.set (n - 1) (z + 1)) _ (IRow.of_own HS.out (by omega) (fun x hx => by have := HI.out x hx; unfold Rng; omega)) (by omega) HI.out)
      rw [HB.out] at HC
      unfold ResFb at HC
      clear hgrow hat hbn hcell hfr
      have hsW : w.heap.size < (wn.setCell ⟨g, n - 1, none⟩ (.int .i64 (z + 1))).heap.size := by simp; omega
      generalize wn.setCell ⟨g, n - 1, none⟩ (.int .i64 (z + 1)) = W at *
      refine HC.out.mono ?_
      rintro e w1 ⟨⟨B, c, rfl, ho⟩, hb1⟩
      obtain ⟨hc1, hf1, hs1⟩ := keepc hb1
      have hB1 : Below w.heap.size w w1 := hb2.trans (hb1.mono hb2.size)
      replace z0 := (hb1.cell (p := ⟨w.heap.size, 0, none⟩) (World.block_lt_of_cell? _ _ z0)).trans z0
      replace z1 := (hb1.cell (p := ⟨w.heap.size, 1, none⟩) (World.block_lt_of_cell? _ _ z1)).trans z1
      replace e0 := (hb1.frozen (p := ⟨w.heap.size, 0, none⟩) (show w.heap.size < W.heap.size by omega)).trans e0
      replace e1 := (hb1.frozen (p := ⟨w.heap.size, 1, none⟩) (show w.heap.size < W.heap.size by omega)).trans e1
      clear ho hb1 HC hc1 hf1
      go_wp2_with fail
      exact bodyPost_ret (v := .tuple #[.agg #[.int .i64 0, .int .i64 0], .bool false]) (by simp [results, Try.results68, go_sem, pair_set z0 z1]) rfl ⟨rfl, (hB1.setCell (p := ⟨w.heap.size, 0, none⟩) (Nat.le_refl _) _).setCell (p := ⟨w.heap.size, 1, none⟩) (Nat.le_refl _) _⟩
    · rw [if_pos rfl]
      have hz' := lastP_at (HF.out hb) hpos
      have hfl := HF.out hb
      have HQ := Lib.hid (fun A cap w h => convergents_any A n cap (zs.set (n - 1) (z + 1)) w h hn HI.out)
      rw [hb] at HQ
      unfold ResFb at HQ
      rw [hfl] at HQ
      generalize cvgL (zs.set (n - 1) (z + 1)) = fs at *
      generalize lastP fs = X at *
      obtain ⟨x, y⟩ := X
      have HY := Lib.hid hz'
      clear hz' hfl HF
      clear hb
      go_enter Try.func68, Try.ntmps68
      go_wp2_with (first | (at_builtin; refine wpList_append_lies _ rfl (.tmp 11) (.tmp 12) 37 rfl w.heap.size 2 i0 (.int .i64 0) 1 8 Try.underlying37 hi hz0 hz1 hz2 rfl (by decide) _ 0 [] (by rfl) HO.out ad n cap (zs.map (Value.int .i64)) (by rfl) ?len ?cells ?one (by omega) (by show 0 + n ≤ 9223372036854775807; omega) (by omega) (by simp; omega) (w.heap.size + 1 + 1 + 1) (by simp) ?_; rotate_left; rotate_left; rotate_left; intro g cap1 wn hown1 hgrow hat hlt1; simp only [Nat.zero_add, List.nil_append] at hown1; have hcell := own_cellI hown1 HZ.out; have hfr := hown1.frozenAt (n - 1); have HS := Lib.hid (own_setI hown1 (n - 1) (z + 1)); have hgb := (hown1.lt g rfl).1; clear hown1))
      case len => rw [List.length_map, HL.out, Nat.mul_one]
      case cells =>
        intro j u hu
        obtain ⟨ad', e, hc⟩ := HW.out.2.2.2 j u hu
        injection e with e
        subst e
        exact hc
      case one =>
        intro u hu
        obtain ⟨_, _, rfl⟩ := List.mem_map.1 hu
        rfl
      have hbn : Below w.heap.size w wn := (by go_grown : Below w.heap.size w (((w.alloc (.cells #[.int .i64 0, .int .i64 0] 25)).alloc (.cells #[.int .i64 1] 2)).alloc (.cells #[] 2))).grown hgrow (by simp; omega) (fun k hk => by simp [Value.ownBlock] at hk; omega)
      have hb2 : Below w.heap.size w (wn.setCell ⟨g, n - 1, none⟩ (.int .i64 (z + 1))) := hbn.setCell (p := ⟨g, n - 1, none⟩) hgb _
      have hsn : w.heap.size + 1 + 1 + 1 ≤ wn.heap.size := by have := hgrow.size; simpa using this
      have hne : g ≠ w.heap.size := by
        rcases hat with h | h
        · simp [Value.ownBlock] at h; omega
        · omega
      have z0 : wn.cell? ⟨w.heap.size, 0, none⟩ = some (.int .i64 0) := by rw [hgrow.cell_far _ (by simp; omega) (by simp [Value.ownBlock]; omega)]; simp [go_sem]
      have z1 : wn.cell? ⟨w.heap.size, 1, none⟩ = some (.int .i64 0) := by rw [hgrow.cell_far _ (by simp; omega) (by simp [Value.ownBlock]; omega)]; simp [go_sem]
      have e0 : wn.frozen? ⟨w.heap.size, 0, none⟩ = false := by rw [hgrow.frozen_far _ (by simp; omega) (by simp [Value.ownBlock]; omega)]; simp [go_sem]
      have e1 : wn.frozen? ⟨w.heap.size, 1, none⟩ = false := by rw [hgrow.frozen_far _ (by simp; omega) (by simp [Value.ownBlock]; omega)]; simp [go_sem]
      replace z0 := setO (a := ⟨g, n - 1, none⟩) (v := .int .i64 (z + 1)) (by simp [hne]) z0
      replace z1 := setO (a := ⟨g, n - 1, none⟩) (v := .int .i64 (z + 1)) (by simp [hne]) z1
      replace e0 := setF (a := ⟨g, n - 1, none⟩) (v := .int .i64 (z + 1)) e0
      replace e1 := setF (a := ⟨g, n - 1, none⟩) (v := .int .i64 (z + 1)) e1
      have HC := Lib.hid (HQ.out _ cap1 _ (IRow.of_own HS.out (by omega) (fun x hx => by have := HI.out x hx; unfold Rng; omega)))
      clear hgrow hat hbn hcell hfr
      have hsW : w.heap.size < (wn.setCell ⟨g, n - 1, none⟩ (.int .i64 (z + 1))).heap.size := by simp; omega
      generalize wn.setCell ⟨g, n - 1, none⟩ (.int .i64 (z + 1)) = W at *
      refine HC.out.mono ?_
      rintro e w1 ⟨⟨B, c, rfl, ho⟩, hb1⟩
      obtain ⟨g', rfl, hg1, hg2⟩ := own_some ho (by omega)
      obtain ⟨k0, k1⟩ := own_cellP ho HY.out
      simp only at k0 k1
      have hB1 : Below w.heap.size w w1 := hb2.trans (hb1.mono hb2.size)
      replace z0 := (hb1.cell (p := ⟨w.heap.size, 0, none⟩) (World.block_lt_of_cell? _ _ z0)).trans z0
      replace z1 := (hb1.cell (p := ⟨w.heap.size, 1, none⟩) (World.block_lt_of_cell? _ _ z1)).trans z1
      replace e0 := (hb1.frozen (p := ⟨w.heap.size, 0, none⟩) (show w.heap.size < W.heap.size by omega)).trans e0
      replace e1 := (hb1.frozen (p := ⟨w.heap.size, 1, none⟩) (show w.heap.size < W.heap.size by omega)).trans e1
      clear ho hb1 HC
      go_wp2_with fail
      exact bodyPost_ret (v := .tuple #[.agg #[.int .i64 x, .int .i64 y], .bool true]) (by simp [results, Try.results68, go_sem, pair_set z0 z1]) rfl ⟨rfl, (hB1.setCell (p := ⟨w.heap.size, 0, none⟩) (Nat.le_refl _) _).setCell (p := ⟨w.heap.size, 1, none⟩) (Nat.le_refl _) _⟩
set_option maxRecDepth 100000 in
set_option maxHeartbeats 1600000 in
theorem l05At_any (A : Option Addr) (n cap : Nat) (zs : List Int) (w : World) (h : IRow w A n zs) (hn : n ≤ 1048576) (hzb : ∀ z ∈ zs, -1000000001 ≤ z ∧ z ≤ 1000000001) :
    Calls Try.prog 64 #[.slice A n cap] w fun e w' => e = .returned (.tuple #[.agg #[.int .i64 (fatT zs).1, .int .i64 (fatT zs).2.1], .bool (fatT zs).2.2]) ∧ Below w.heap.size w w' := by
  have hl := h.len
  rcases Nat.eq_zero_or_pos n with h0 | hpos
  · subst h0
    have hzs : zs = [] := List.eq_nil_of_length_eq_zero hl
    subst hzs
    rw [incL_nil]
    clear h hl hzb
    go_enter Try.func64, Try.ntmps64
    go_wp2_with fail
    go_returns
    exact ⟨rfl, by go_grown⟩
  · obtain ⟨ad, z, rfl, hz, z1, z2, hc⟩ := h.at_ (k := n - 1) (by omega)
    obtain ⟨b1, b2⟩ := hzb z (List.mem_of_getElem? hz)
    have hin := incL_in hz hzb
    unfold fatT
    rw [incL_at hl hpos hz]
    have hlen : (zs.set (n - 1) (z + 1)).length = n := by simp [hl]
    have hfull : cvgB (zs.set (n - 1) (z + 1)) = true → (cvgL (zs.set (n - 1) (z + 1))).length = n := fun hb => (cvg_full hb).trans hlen
    have HO := Lib.hid (l00Own_any (some ad) n cap zs _ (h.alloc (.cells #[.int .i64 0, .int .i64 0] 25)) hpos hn)
    have HZ := Lib.hid hz
    have HI := Lib.hid hin
    have HQ := Lib.hid (fun A cap w h => l03Convergents_any A n cap (zs.set (n - 1) (z + 1)) w h hn HI.out)
    have hne0 : ((n : Int) == 0) = false := by rw [beq_eq_false_iff_ne]; omega
    clear h hl hz hin hc hzb hlen
    cases hb : cvgB (zs.set (n - 1) (z + 1))
    · rw [if_neg (by simp)]
      rw [hb] at HQ
      unfold ResFb at HQ
      generalize cvgL (zs.set (n - 1) (z + 1)) = fs at *
      clear hfull hb
      go_enter Try.func64, Try.ntmps64
      go_wp2_with fail
      refine HO.out.mono ?_
      rintro e w1 ⟨⟨A1, c1, rfl, ho1⟩, hb1⟩
      obtain ⟨g, rfl, hg1, hg2⟩ := own_some ho1 (by omega)
      have hcell := own_cellI ho1 HZ.out
      have hfr := ho1.frozenAt (n - 1)
      have HS := Lib.hid (own_setI ho1 (n - 1) (z + 1))
      have hB1 : Below w.heap.size w w1 := Below.trans (by go_grown) (hb1.mono (by simp))
      have hl1 : w.heap.size < w1.heap.size := by have := hb1.size; simp at this; omega
      have hg1' : w.heap.size < g := by simp at hg1; omega
      have z0 : w1.cell? ⟨w.heap.size, 0, none⟩ = some (.int .i64 0) := (hb1.cell (p := ⟨w.heap.size, 0, none⟩) (by simp)).trans (newcellA rfl rfl)
      have z1 : w1.cell? ⟨w.heap.size, 1, none⟩ = some (.int .i64 0) := (hb1.cell (p := ⟨w.heap.size, 1, none⟩) (by simp)).trans (newcellA rfl rfl)
      have e0 : w1.frozen? ⟨w.heap.size, 0, none⟩ = false := (hb1.frozen (p := ⟨w.heap.size, 0, none⟩) (by simp)).trans (by simp [go_sem])
      have e1 : w1.frozen? ⟨w.heap.size, 1, none⟩ = false := (hb1.frozen (p := ⟨w.heap.size, 1, none⟩) (by simp)).trans (by simp [go_sem])
      have hne : g ≠ w.heap.size := by omega
      replace z0 := setO (a := ⟨g, n - 1, none⟩) (v := .int .i64 (z + 1)) (by simp [hne]) z0
      replace z1 := setO (a := ⟨g, n - 1, none⟩) (v := .int .i64 (z + 1)) (by simp [hne]) z1
      replace e0 := setF (a := ⟨g, n - 1, none⟩) (v := .int .i64 (z + 1)) e0
      replace e1 := setF (a := ⟨g, n - 1, none⟩) (v := .int .i64 (z + 1)) e1
      have hb3 : Below w.heap.size w (w1.setCell ⟨g, n - 1, none⟩ (.int .i64 (z + 1))) := hB1.setCell (p := ⟨g, n - 1, none⟩) (by show w.heap.size ≤ g; omega) _
      have hsW : w.heap.size < (w1.setCell ⟨g, n - 1, none⟩ (.int .i64 (z + 1))).heap.size := by simp; omega
      have HC := Lib.hid (HQ.out _ c1 _ (IRow.of_own HS.out (by omega) (fun x hx => by have := HI.out x hx; unfold Rng; omega)))
      clear ho1 hb1 HO hB1
      go_wp2_with fail
      generalize w1.setCell ⟨g, n - 1, none⟩ (.int .i64 (z + 1)) = W at *
      refine HC.out.mono ?_
      rintro e w2 ⟨⟨B, c, rfl, ho⟩, hb2⟩
      have hB2 : Below w.heap.size w w2 := hb3.trans (hb2.mono hb3.size)
      replace z0 := (hb2.cell (p := ⟨w.heap.size, 0, none⟩) (World.block_lt_of_cell? _ _ z0)).trans z0
      replace z1 := (hb2.cell (p := ⟨w.heap.size, 1, none⟩) (World.block_lt_of_cell? _ _ z1)).trans z1
      replace e0 := (hb2.frozen (p := ⟨w.heap.size, 0, none⟩) hsW).trans e0
      replace e1 := (hb2.frozen (p := ⟨w.heap.size, 1, none⟩) hsW).trans e1
      clear hcell hfr HC
      clear ho hb2 HQ
      go_wp2_with fail
      exact bodyPost_ret (v := .tuple #[.agg #[.int .i64 0, .int .i64 0], .bool false]) (by simp [results, Try.results64, go_sem, pair_set z0 z1]) rfl ⟨rfl, (hB2.setCell (p := ⟨w.heap.size, 0, none⟩) (Nat.le_refl _) _).setCell (p := ⟨w.heap.size, 1, none⟩) (Nat.le_refl _) _⟩
    · rw [if_pos rfl]
      have hz' := lastP_at (hfull hb) hpos
      have hfl := hfull hb
      rw [hb] at HQ
      unfold ResFb at HQ
      rw [hfl] at HQ
      generalize cvgL (zs.set (n - 1) (z + 1)) = fs at *
      generalize lastP fs = X at *
      obtain ⟨x, y⟩ := X
      have HY := Lib.hid hz'
      clear hz' hfl hfull hb
      go_enter Try.func64, Try.ntmps64
      go_wp2_with fail
      refine HO.out.mono ?_
      rintro e w1 ⟨⟨A1, c1, rfl, ho1⟩, hb1⟩
      obtain ⟨g, rfl, hg1, hg2⟩ := own_some ho1 (by omega)
      have hcell := own_cellI ho1 HZ.out
      have hfr := ho1.frozenAt (n - 1)
      have HS := Lib.hid (own_setI ho1 (n - 1) (z + 1))
      have hB1 : Below w.heap.size w w1 := Below.trans (by go_grown) (hb1.mono (by simp))
      have hl1 : w.heap.size < w1.heap.size := by have := hb1.size; simp at this; omega
      have hg1' : w.heap.size < g := by simp at hg1; omega
      have z0 : w1.cell? ⟨w.heap.size, 0, none⟩ = some (.int .i64 0) := (hb1.cell (p := ⟨w.heap.size, 0, none⟩) (by simp)).trans (newcellA rfl rfl)
      have z1 : w1.cell? ⟨w.heap.size, 1, none⟩ = some (.int .i64 0) := (hb1.cell (p := ⟨w.heap.size, 1, none⟩) (by simp)).trans (newcellA rfl rfl)
      have e0 : w1.frozen? ⟨w.heap.size, 0, none⟩ = false := (hb1.frozen (p := ⟨w.heap.size, 0, none⟩) (by simp)).trans (by simp [go_sem])
      have e1 : w1.frozen? ⟨w.heap.size, 1, none⟩ = false := (hb1.frozen (p := ⟨w.heap.size, 1, none⟩) (by simp)).trans (by simp [go_sem])
      have hne : g ≠ w.heap.size := by omega
      replace z0 := setO (a := ⟨g, n - 1, none⟩) (v := .int .i64 (z + 1)) (by simp [hne]) z0
      replace z1 := setO (a := ⟨g, n - 1, none⟩) (v := .int .i64 (z + 1)) (by simp [hne]) z1
      replace e0 := setF (a := ⟨g, n - 1, none⟩) (v := .int .i64 (z + 1)) e0
      replace e1 := setF (a := ⟨g, n - 1, none⟩) (v := .int .i64 (z + 1)) e1
      have hb3 : Below w.heap.size w (w1.setCell ⟨g, n - 1, none⟩ (.int .i64 (z + 1))) := hB1.setCell (p := ⟨g, n - 1, none⟩) (by show w.heap.size ≤ g; omega) _
      have hsW : w.heap.size < (w1.setCell ⟨g, n - 1, none⟩ (.int .i64 (z + 1))).heap.size := by simp; omega
      have HC := Lib.hid (HQ.out _ c1 _ (IRow.of_own HS.out (by omega) (fun x hx => by have := HI.out x hx; unfold Rng; omega)))
      clear ho1 hb1 HO hB1
      go_wp2_with fail
      generalize w1.setCell ⟨g, n - 1, none⟩ (.int .i64 (z + 1)) = W at *
      refine HC.out.mono ?_
      rintro e w2 ⟨⟨B, c, rfl, ho⟩, hb2⟩
      have hB2 : Below w.heap.size w w2 := hb3.trans (hb2.mono hb3.size)
      replace z0 := (hb2.cell (p := ⟨w.heap.size, 0, none⟩) (World.block_lt_of_cell? _ _ z0)).trans z0
      replace z1 := (hb2.cell (p := ⟨w.heap.size, 1, none⟩) (World.block_lt_of_cell? _ _ z1)).trans z1
      replace e0 := (hb2.frozen (p := ⟨w.heap.size, 0, none⟩) hsW).trans e0
      replace e1 := (hb2.frozen (p := ⟨w.heap.size, 1, none⟩) hsW).trans e1
      clear hcell hfr HC
      obtain ⟨g', rfl, hg3, hg4⟩ := own_some ho (by omega)
      obtain ⟨k0, k1⟩ := own_cellP ho HY.out
      simp only at k0 k1
      clear ho hb2 HQ
      go_wp2_with fail
      exact bodyPost_ret (v := .tuple #[.agg #[.int .i64 x, .int .i64 y], .bool true]) (by simp [results, Try.results64, go_sem, pair_set z0 z1]) rfl ⟨rfl, (hB2.setCell (p := ⟨w.heap.size, 0, none⟩) (Nat.le_refl _) _).setCell (p := ⟨w.heap.size, 1, none⟩) (Nat.le_refl _) _⟩
/-- The fraction at the end of a path, and a code. -/
def fapT (zs : List Int) : Int × Int × Int := if pthB zs = true then (if (fatT zs).2.2 = true then ((fatT zs).1, (fatT zs).2.1, 0) else (0, 0, 5)) else (0, 0, 1)
theorem pth_in {zs : List Int} (h : pthB zs = true) : zs.length ≤ 60 ∧ ∀ z ∈ zs, -1000000001 ≤ z ∧ z ≤ 1000000001 := by
  unfold pthB at h
  rw [Bool.and_eq_true, decide_eq_true_iff] at h
  refine ⟨h.1, fun z hz => ?_⟩
  obtain ⟨k, hk⟩ := List.mem_iff_getElem?.1 hz
  have := allK_at _ zs 0 k z h.2 hk
  unfold pthE at this
  have := inB_iff.1 this
  split at this <;> omega
theorem fatT_f {zs : List Int} (h : (fatT zs).2.2 = false) : fatT zs = (0, 0, false) := by
  unfold fatT at h ⊢
  split
  · rename_i h1; rw [if_pos h1] at h; cases h
  · rfl
end Go.Proofs.Ytjkonkoiofhefaa
