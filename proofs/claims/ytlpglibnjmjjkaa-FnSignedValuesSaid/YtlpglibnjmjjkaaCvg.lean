/-
  The convergents of terms: contracts of the program's and of the reference's functions.
  No condition but that the terms are at most 2000000000 in size and the lists not longer than 1048576.
-/
import Derived.Test.YtlpglibnjmjjkaaProg
import Derived.Test.YtlpglibnjmjjkaaMem
import Derived.Test.YtlpglibnjmjjkaaBasic
import Derived.Test.YtlpglibnjmjjkaaFrac
import Derived.Test.YtlpglibnjmjjkaaMarks
import Derived.Test.YtlpglibnjmjjkaaOwn
import Derived.Handy
import Derived.BigQuiet
import Derived.RegionTactic
import Derived.BigRegion
import Derived.StillTailTactics
import Derived.Deep.QuietTactic
import Derived.Deep.AppendLies
namespace Go.Proofs.Ytlpglibnjmjjkaa
open Go.RowKit
set_option linter.unusedVariables false
attribute [local go_sem ↓] Go.wp_at_zero Go.wp_at_succ

/-- The convergents behind a state. -/
def cvgO : List Int → Int → Int → Int → Int → Option (List (Int × Int))
  | [], _, _, _, _ => some []
  | t :: r, p, q, p0, q0 => if vfB (t * p + p0) (t * q + q0) = true then (cvgO r (t * p + p0) (t * q + q0) p q).map ((t * p + p0, t * q + q0) :: ·) else none
def cvgL (zs : List Int) : List (Int × Int) := (cvgO zs 1 0 0 1).getD []
def cvgB (zs : List Int) : Bool := (cvgO zs 1 0 0 1).isSome
theorem cvgO_len : ∀ (zs : List Int) (p q p0 q0 : Int) (l : List (Int × Int)), cvgO zs p q p0 q0 = some l → l.length = zs.length ∧ ∀ z ∈ l, vfB z.1 z.2 = true
  | [], _, _, _, _, l, h => by simp [cvgO] at h; subst h; simp
  | t :: r, p, q, p0, q0, l, h => by
    rw [cvgO] at h
    split at h
    · rename_i hv
      cases hc : cvgO r (t * p + p0) (t * q + q0) p q with
      | none => rw [hc] at h; cases h
      | some m =>
        rw [hc] at h
        injection h with h
        subst h
        obtain ⟨h1, h2⟩ := cvgO_len r _ _ _ _ m hc
        refine ⟨by simp [h1], fun z hz => ?_⟩
        rw [List.mem_cons] at hz
        rcases hz with rfl | hz
        · exact hv
        · exact h2 z hz
    · cases h
theorem cvgL_rng (zs : List Int) : ∀ z ∈ cvgL zs, Rng z.1 ∧ Rng z.2 := by
  intro z hz
  unfold cvgL at hz
  cases hc : cvgO zs 1 0 0 1 with
  | none => rw [hc] at hz; cases hz
  | some l =>
    rw [hc] at hz
    have := vfB_iff.1 ((cvgO_len zs _ _ _ _ l hc).2 z hz)
    unfold Rng; omega
theorem cvgL_len (zs : List Int) : (cvgL zs).length ≤ zs.length := by
  unfold cvgL
  cases hc : cvgO zs 1 0 0 1 with
  | none => exact Nat.zero_le _
  | some l => exact Nat.le_of_eq (cvgO_len zs _ _ _ _ l hc).1
theorem cvg_none {zs : List Int} (h : cvgO zs 1 0 0 1 = none) : cvgL zs = [] ∧ cvgB zs = false := by unfold cvgL cvgB; rw [h]; exact ⟨rfl, rfl⟩
theorem cvg_some {zs : List Int} {l : List (Int × Int)} (h : cvgO zs 1 0 0 1 = some l) : cvgL zs = l ∧ cvgB zs = true := by unfold cvgL cvgB; rw [h]; exact ⟨rfl, rfl⟩
/-- So many of the convergents have been found. -/
def CvgAt (zs : List Int) (k : Nat) (p q p0 q0 : Int) (fs : List (Int × Int)) : Prop := cvgO zs 1 0 0 1 = (cvgO (zs.drop k) p q p0 q0).map (fs ++ ·)
theorem CvgAt.start (zs : List Int) : CvgAt zs 0 1 0 0 1 [] := by unfold CvgAt; simp
theorem drop_at {zs : List Int} {k : Nat} {z : Int} (h : zs[k]? = some z) : zs.drop k = z :: zs.drop (k + 1) := by
  have hk : k < zs.length := by
    rcases Nat.lt_or_ge k zs.length with h' | h'
    · exact h'
    · rw [List.getElem?_eq_none h'] at h; cases h
  rw [List.drop_eq_getElem_cons hk]
  rw [List.getElem?_eq_getElem hk] at h
  injection h with h
  rw [h]
theorem CvgAt.step {zs : List Int} {k : Nat} {p q p0 q0 z : Int} {fs : List (Int × Int)} (h : CvgAt zs k p q p0 q0 fs) (hz : zs[k]? = some z) (hv : vfB (z * p + p0) (z * q + q0) = true) :
    CvgAt zs (k + 1) (z * p + p0) (z * q + q0) p q (fs ++ [(z * p + p0, z * q + q0)]) := by
  unfold CvgAt at *
  rw [h, drop_at hz, cvgO, if_pos hv]
  cases cvgO (zs.drop (k + 1)) (z * p + p0) (z * q + q0) p q <;> simp
theorem CvgAt.stop {zs : List Int} {k : Nat} {p q p0 q0 z : Int} {fs : List (Int × Int)} (h : CvgAt zs k p q p0 q0 fs) (hz : zs[k]? = some z) (hv : vfB (z * p + p0) (z * q + q0) = false) : cvgO zs 1 0 0 1 = none := by
  unfold CvgAt at h
  rw [h, drop_at hz, cvgO, if_neg (by simp [hv])]; rfl
theorem CvgAt.done {zs : List Int} {k : Nat} {p q p0 q0 : Int} {fs : List (Int × Int)} (h : CvgAt zs k p q p0 q0 fs) (hk : zs.length ≤ k) : cvgO zs 1 0 0 1 = some fs := by
  unfold CvgAt at h
  rw [h, List.drop_of_length_le hk]; simp [cvgO]
theorem mul_bd2 {x y : Int} (h1 : -2000000000 ≤ x) (h2 : x ≤ 2000000000) (h3 : -1000000000 ≤ y) (h4 : y ≤ 1000000000) : -2000000000000000000 ≤ x * y ∧ x * y ≤ 2000000000000000000 := by
  have h : (x * y).natAbs ≤ 2000000000 * 1000000000 := by rw [Int.natAbs_mul]; exact Nat.mul_le_mul (by omega) (by omega)
  omega

set_option maxRecDepth 100000 in
set_option maxHeartbeats 1600000 in
theorem convergents_any (A : Option Addr) (n cap : Nat) (zs : List Int) (w : World) (h : IRow w A n zs) (hn : n ≤ 1048576) (hzb : ∀ z ∈ zs, -2000000000 ≤ z ∧ z ≤ 2000000000) :
    Calls Try.prog 68 #[.slice A n cap] w fun e w' => ResFb w.heap.size (cvgL zs) (cvgB zs) e w' ∧ Below w.heap.size w w' := by
  obtain ⟨i0, hi, hz0, hz1, hz2⟩ := info_parts infoF
  have HL := Lib.hid h.len
  have HZ := Lib.hid hzb
  have hw := Lib.hid h; clear h hzb
  go_enter Try.func68, Try.ntmps68
  go_wp2_with (at_make; refine wpList_make_own _ rfl _ _ 26 rfl w.heap.size 30 i0 (.agg #[.int .i64 0, .int .i64 0]) 2 Try.underlying26 hi hz0 hz1 .i64 .i64 _ n rfl rfl rfl (by rw [hz2]; omega) (by unfold maxLen; omega) (Nat.le_refl _) ?_; intro w0 hown0 hgrow0)
  have HO := Lib.hid hown0
  have hB0 : Below w.heap.size w w0 := (Below.refl _ _).grown hgrow0 (Nat.le_refl _) (fun k hk => by cases hk)
  clear hown0 hgrow0
  go_loopw [4, 5, 6, 7, 8, 17] (fun o a b c d i wr => ∃ (k : Nat) (p q p0 q0 : Int) (B : Option Addr) (cc : Nat) (fs : List (Int × Int)), k ≤ n ∧ i = .int .i64 k ∧ a = .int .i64 p ∧ b = .int .i64 q ∧ c = .int .i64 p0 ∧ d = .int .i64 q0 ∧ o = .slice B k cc ∧
    -1000000000 ≤ p ∧ p ≤ 1000000000 ∧ -1000000000 ≤ q ∧ q ≤ 1000000000 ∧ -1000000000 ≤ p0 ∧ p0 ≤ 1000000000 ∧ -1000000000 ≤ q0 ∧ q0 ≤ 1000000000 ∧
    wr.ownsRow w.heap.size 30 2 (.slice B k cc) k (prs fs) ∧ Hid (CvgAt zs k p q p0 q0 fs) ∧ Below w.heap.size w wr) (fun _ _ _ _ _ i _ => n - (intOf i).toNat)
  case atStart => exact ⟨0, 1, 0, 0, 1, _, _, [], Nat.zero_le _, rfl, rfl, rfl, rfl, rfl, rfl, by omega, by omega, by omega, by omega, by omega, by omega, by omega, by omega, HO.out, CvgAt.start zs, hB0⟩
  case round =>
    obtain ⟨k, p, q, p0, q0, B, cc, fs, hk, rfl, rfl, rfl, rfl, rfl, rfl, p1, p2, q1, q2, p3, p4, q3, q4, hown, HC, hB⟩ := hrel
    clear HO hB0
    have HO := Lib.hid hown
    have HF := Lib.hid hown.lt
    have hbase : w.heap.size ≤ wr.heap.size := hB.size
    clear hown
    by_cases hlt : k < n
    · obtain ⟨ad, z, rfl, hz, z1, z2, hc⟩ := (hw.out.below hB).at_ hlt
      obtain ⟨y1, y2⟩ := HZ.out z (List.mem_of_getElem? hz)
      obtain ⟨m1, m2⟩ := mul_bd2 y1 y2 p1 p2
      obtain ⟨m3, m4⟩ := mul_bd2 y1 y2 q1 q2
      have HZ1 := Lib.hid hz
      clear hz
      cases hv : vfB (z * p + p0) (z * q + q0)
      · go_wp2_with fail
        refine (validFraction_any (z * p + p0) (z * q + q0) _).mono ?_
        rintro e wv ⟨rfl, hbv⟩
        obtain ⟨hcv, hfv, hsv⟩ := keepc hbv
        have hb2 : Below w.heap.size w wv := (hB.alloc hbase _).trans (hbv.mono (by simp; omega))
        go_wp2_with fail
        go_ret2
        obtain ⟨e1, e2⟩ := cvg_none (HC.out.stop HZ1.out hv)
        rw [e1, e2]
        exact ⟨⟨none, 0, rfl, World.ownsRow_nil ..⟩, hb2⟩
      · have hvv := vfB_iff.1 hv
        obtain ⟨v1, v2, v3, v4, _⟩ := hvv
        have v1' : -1000000000 ≤ z * q + q0 := by omega
        go_wp2_with fail
        refine (validFraction_any (z * p + p0) (z * q + q0) _).mono ?_
        rintro e wv ⟨rfl, hbv⟩
        obtain ⟨hcv, hfv, hsv⟩ := keepc hbv
        have hb2 : Below w.heap.size w wv := (hB.alloc hbase _).trans (hbv.mono (by simp; omega))
        have hlv : wr.heap.size < wv.heap.size := by simp at hsv; omega
        have HO2 := Lib.hid (own_below (HO.out.alloc _) hbv)
        have hbase2 : w.heap.size ≤ wv.heap.size := hb2.size
        clear hbv HO
        go_wp2_with (first | (at_builtin; refine wpList_append_lies _ rfl (.tmp 39) (.tmp 41) 26 rfl w.heap.size 30 i0 (.agg #[.int .i64 0, .int .i64 0]) 2 16 Try.underlying26 hi hz0 hz1 hz2 rfl (by decide) _ k (prs fs) (by rfl) (HO2.out.alloc _) ⟨wv.heap.size, 0, none⟩ 1 1 [.int .i64 (z * p + p0), .int .i64 (z * q + q0)] (by rfl) rfl ?cells (by simp [Value.oneCell']) (by decide) (by show k + 1 ≤ 9223372036854775807; omega) (by omega) (by simp; omega) (wv.heap.size + 1) (by simp) ?_; rotate_left; intro g cap1 wn hown1 hgrow hat hlt1))
        case cells => exact fun j u hu => newcell (by simp) hu
        go_roundw
        case rel =>
          refine ⟨k + 1, z * p + p0, z * q + q0, p, q, _, _, fs ++ [(z * p + p0, z * q + q0)], by omega, by go_num, rfl, rfl, rfl, rfl, rfl, v3, v4, v1', v2, p1, p2, q1, q2, by rw [prs_append]; exact hown1, HC.out.step HZ1.out hv, (hb2.alloc hbase2 _).grown hgrow (by simp; omega) (fun k hk => (HF.out k hk).1)⟩
        case measure => simp [intOf]; omega
    · obtain rfl : n = k := by omega
      go_wp2_with fail
      go_ret2
      obtain ⟨e1, e2⟩ := cvg_some (HC.out.done (by rw [HL.out]; exact Nat.le_refl _))
      have hl := own_lenP HO.out
      rw [e1, e2]
      subst hl
      exact ⟨⟨B, cc, rfl, HO.out⟩, hB⟩

theorem l03New_any (w : World) : Calls Try.prog 72 #[] w fun e w' => e = .returned (.agg #[.int .i64 1, .int .i64 0, .int .i64 0, .int .i64 1]) ∧ Below w.heap.size w w' := by
  go_enter Try.func72, Try.ntmps72
  go_wp2
  go_returns
  exact ⟨rfl, by go_grown⟩
theorem next_any4 (p q p0 q0 t : Int) (w : World) (y1 : -2000000000 ≤ t) (y2 : t ≤ 2000000000) (p1 : -1000000000 ≤ p) (p2 : p ≤ 1000000000) (q1 : -1000000000 ≤ q) (q2 : q ≤ 1000000000) (p3 : -1000000000 ≤ p0) (p4 : p0 ≤ 1000000000) (q3 : -1000000000 ≤ q0) (q4 : q0 ≤ 1000000000) :
    Calls Try.prog 73 #[.agg #[.int .i64 p, .int .i64 q, .int .i64 p0, .int .i64 q0], .int .i64 t] w fun e w' => e = .returned (.agg #[.int .i64 (t * p + p0), .int .i64 (t * q + q0), .int .i64 p, .int .i64 q]) ∧ Below w.heap.size w w' := by
  obtain ⟨m1, m2⟩ := mul_bd2 y1 y2 p1 p2
  obtain ⟨m3, m4⟩ := mul_bd2 y1 y2 q1 q2
  go_enter Try.func73, Try.ntmps73
  go_wp2
  go_returns
  exact ⟨rfl, by go_grown⟩

theorem cvg_keep {w2 wv : World} {g k cc base : Nat} {B : Option Addr} {fs : List (Int × Int)} {a b c d u v x y : Value} {s t : Int} (hg : g < w2.heap.size)
    (d0 : w2.cell? ⟨g, 0, none⟩ = some a) (d1 : w2.cell? ⟨g, 1, none⟩ = some b) (d2 : w2.cell? ⟨g, 2, none⟩ = some c) (d3 : w2.cell? ⟨g, 3, none⟩ = some d)
    (e0 : w2.frozen? ⟨g, 0, none⟩ = false) (e1 : w2.frozen? ⟨g, 1, none⟩ = false) (e2 : w2.frozen? ⟨g, 2, none⟩ = false) (e3 : w2.frozen? ⟨g, 3, none⟩ = false)
    (hO : w2.ownsRow base 30 2 (.slice B k cc) k (prs fs)) (hne : (Value.slice B k cc).ownBlock ≠ some g) :
    let W := (((w2.setCell ⟨g, 0, none⟩ u).setCell ⟨g, 1, none⟩ v).setCell ⟨g, 2, none⟩ x).setCell ⟨g, 3, none⟩ y
    let W' := W.alloc (.cells #[.int .i64 s, .int .i64 t] 30)
    Below W'.heap.size W' wv →
    wv.cell? ⟨g, 0, none⟩ = some u ∧ wv.cell? ⟨g, 1, none⟩ = some v ∧ wv.cell? ⟨g, 2, none⟩ = some x ∧ wv.cell? ⟨g, 3, none⟩ = some y ∧
      wv.frozen? ⟨g, 0, none⟩ = false ∧ wv.frozen? ⟨g, 1, none⟩ = false ∧ wv.frozen? ⟨g, 2, none⟩ = false ∧ wv.frozen? ⟨g, 3, none⟩ = false ∧
      wv.cell? ⟨w2.heap.size, 0, none⟩ = some (.int .i64 s) ∧ wv.cell? ⟨w2.heap.size, 1, none⟩ = some (.int .i64 t) ∧ wv.ownsRow base 30 2 (.slice B k cc) k (prs fs) ∧ w2.heap.size < wv.heap.size := by
  intro W W' hb
  have hW : W.heap.size = w2.heap.size := by simp [W]
  have hl : ∀ j, (⟨g, j, none⟩ : Addr).block < W'.heap.size := fun j => by simp [W', hW]; omega
  have g0 : W.cell? ⟨g, 0, none⟩ = some u := setO (by simp) (setO (by simp) (setO (by simp) (setS d0)))
  have g1 : W.cell? ⟨g, 1, none⟩ = some v := setO (by simp) (setO (by simp) (setS (setO (by simp) d1)))
  have g2 : W.cell? ⟨g, 2, none⟩ = some x := setO (by simp) (setS (setO (by simp) (setO (by simp) d2)))
  have g3 : W.cell? ⟨g, 3, none⟩ = some y := setS (setO (by simp) (setO (by simp) (setO (by simp) d3)))
  have k0 : ∀ j z, W.cell? ⟨g, j, none⟩ = some z → wv.cell? ⟨g, j, none⟩ = some z := fun j z h => (hb.cell (hl j)).trans ((World.cell?_alloc_lt _ _ _ (by rw [hW]; exact hg)).trans h)
  have k1 : ∀ j, w2.frozen? ⟨g, j, none⟩ = false → wv.frozen? ⟨g, j, none⟩ = false := fun j h => (hb.frozen (hl j)).trans (by
    have e : W.frozen? ⟨g, j, none⟩ = false := setF (setF (setF (setF h)))
    have e2 : W'.frozen? ⟨g, j, none⟩ = W.frozen? ⟨g, j, none⟩ := World.frozen?_of_block (Below.heap_alloc W _ g (by rw [hW]; exact hg))
    rw [e2, e])
  have hs := hb.size
  refine ⟨k0 0 u g0, k0 1 v g1, k0 2 x g2, k0 3 y g3, k1 0 e0, k1 1 e1, k1 2 e2, k1 3 e3, ?_, ?_, ?_, ?_⟩
  · rw [hb.cell (p := ⟨w2.heap.size, 0, none⟩) (by simp [W', hW]), ← hW]; simp [W']
  · rw [hb.cell (p := ⟨w2.heap.size, 1, none⟩) (by simp [W', hW]), ← hW]; simp [W']
  · exact own_below ((own_set_other (own_set_other (own_set_other (own_set_other hO hne _) hne _) hne _) hne _).alloc _) hb
  · simp [W', hW] at hs; omega

set_option maxRecDepth 100000 in
set_option maxHeartbeats 3200000 in
theorem l03Convergents_any (A : Option Addr) (n cap : Nat) (zs : List Int) (w : World) (h : IRow w A n zs) (hn : n ≤ 1048576) (hzb : ∀ z ∈ zs, -2000000000 ≤ z ∧ z ≤ 2000000000) :
    Calls Try.prog 65 #[.slice A n cap] w fun e w' => ResFb w.heap.size (cvgL zs) (cvgB zs) e w' ∧ Below w.heap.size w w' := by
  obtain ⟨i0, hi, hz0, hz1, hz2⟩ := info_parts infoF
  have HL := Lib.hid h.len
  have HZ := Lib.hid hzb
  have hw := Lib.hid h; clear h hzb
  have hown0 : (w.alloc (.cells #[] 30)).ownsRow w.heap.size 30 2 (.slice (some ⟨w.heap.size, 0, none⟩) 0 0) 0 (prs []) := World.ownsRow_made w #[] 0 (Nat.le_refl _) (by decide) rfl
  have HO := Lib.hid hown0
  clear hown0
  go_enter Try.func65, Try.ntmps65
  go_wp2_with fail
  refine (l03New_any _).mono ?_
  rintro e w1 ⟨rfl, hb1⟩
  have hB1 : Below w.heap.size w w1 := ((Below.refl _ _).alloc (Nat.le_refl _) _).trans (hb1.mono (by simp))
  have hbase1 : w.heap.size ≤ w1.heap.size := hB1.size
  have HO1 := Lib.hid (own_below HO.out hb1)
  have hlt1 : w.heap.size < w1.heap.size := by have := hb1.size; simp at this; omega
  clear hb1 HO
  go_wp2_with fail
  go_loopw [4, 6] (fun o i wr => ∃ (k : Nat) (p q p0 q0 : Int) (B : Option Addr) (cc : Nat) (fs : List (Int × Int)), k ≤ n ∧ i = .int .i64 k ∧ o = .slice B k cc ∧
    wr.cell? ⟨w1.heap.size, 0, none⟩ = some (.int .i64 p) ∧ wr.cell? ⟨w1.heap.size, 1, none⟩ = some (.int .i64 q) ∧ wr.cell? ⟨w1.heap.size, 2, none⟩ = some (.int .i64 p0) ∧ wr.cell? ⟨w1.heap.size, 3, none⟩ = some (.int .i64 q0) ∧
    wr.frozen? ⟨w1.heap.size, 0, none⟩ = false ∧ wr.frozen? ⟨w1.heap.size, 1, none⟩ = false ∧ wr.frozen? ⟨w1.heap.size, 2, none⟩ = false ∧ wr.frozen? ⟨w1.heap.size, 3, none⟩ = false ∧
    -1000000000 ≤ p ∧ p ≤ 1000000000 ∧ -1000000000 ≤ q ∧ q ≤ 1000000000 ∧ -1000000000 ≤ p0 ∧ p0 ≤ 1000000000 ∧ -1000000000 ≤ q0 ∧ q0 ≤ 1000000000 ∧
    wr.ownsRow w.heap.size 30 2 (.slice B k cc) k (prs fs) ∧ (Value.slice B k cc).ownBlock ≠ some w1.heap.size ∧ w1.heap.size < wr.heap.size ∧ Hid (CvgAt zs k p q p0 q0 fs) ∧ Below w.heap.size w wr) (fun _ i _ => n - (intOf i).toNat)
  case atStart => exact ⟨0, 1, 0, 0, 1, _, _, [], Nat.zero_le _, rfl, rfl, by simp, by simp, by simp, by simp, by simp, by simp, by simp, by simp, by omega, by omega, by omega, by omega, by omega, by omega, by omega, by omega, HO1.out.alloc _, by simp [Value.ownBlock]; omega, by simp, CvgAt.start zs, hB1.alloc hbase1 _⟩
  case round =>
    obtain ⟨k, p, q, p0, q0, B, cc, fs, hk, rfl, rfl, c0, c1, c2, c3, f0, f1, f2, f3, p1, p2, q1, q2, p3, p4, q3, q4, hown, hne, hgl, HC, hB⟩ := hrel
    clear HO1 hB1
    have HO := Lib.hid hown
    have HF := Lib.hid hown.lt
    have HNE := Lib.hid hne
    have hbase : w.heap.size ≤ wr.heap.size := hB.size
    clear hown hne
    by_cases hlt : k < n
    · obtain ⟨ad, z, rfl, hz, z1, z2, hc⟩ := (hw.out.below hB).at_ hlt
      obtain ⟨y1, y2⟩ := HZ.out z (List.mem_of_getElem? hz)
      have HZ1 := Lib.hid hz
      clear hz
      have hk0 : (0 : Int) ≤ (k : Int) := by omega
      have hk1 : (k : Int) < (n : Int) := by omega
      cases hv : vfB (z * p + p0) (z * q + q0)
      · go_wp2_with fail
        go_still_tail 5, (by kernel_rfl)
        change wpList _ _ _ _ _ wr.drew
        go_wp2_with fail
        refine (next_any4 p q p0 q0 z _ y1 y2 p1 p2 q1 q2 p3 p4 q3 q4).mono ?_
        rintro e w2 ⟨rfl, hb2⟩
        have d0 : w2.cell? ⟨w1.heap.size, 0, none⟩ = some (.int .i64 p) := (hb2.cell (p := ⟨w1.heap.size, 0, none⟩) hgl).trans c0
        have d1 : w2.cell? ⟨w1.heap.size, 1, none⟩ = some (.int .i64 q) := (hb2.cell (p := ⟨w1.heap.size, 1, none⟩) hgl).trans c1
        have d2 : w2.cell? ⟨w1.heap.size, 2, none⟩ = some (.int .i64 p0) := (hb2.cell (p := ⟨w1.heap.size, 2, none⟩) hgl).trans c2
        have d3 : w2.cell? ⟨w1.heap.size, 3, none⟩ = some (.int .i64 q0) := (hb2.cell (p := ⟨w1.heap.size, 3, none⟩) hgl).trans c3
        have e0 : w2.frozen? ⟨w1.heap.size, 0, none⟩ = false := (hb2.frozen (p := ⟨w1.heap.size, 0, none⟩) hgl).trans f0
        have e1 : w2.frozen? ⟨w1.heap.size, 1, none⟩ = false := (hb2.frozen (p := ⟨w1.heap.size, 1, none⟩) hgl).trans f1
        have e2 : w2.frozen? ⟨w1.heap.size, 2, none⟩ = false := (hb2.frozen (p := ⟨w1.heap.size, 2, none⟩) hgl).trans f2
        have e3 : w2.frozen? ⟨w1.heap.size, 3, none⟩ = false := (hb2.frozen (p := ⟨w1.heap.size, 3, none⟩) hgl).trans f3
        have hl2 : w1.heap.size < w2.heap.size := Nat.lt_of_lt_of_le hgl hb2.size
        have hB2 : Below w.heap.size w w2 := (hB.drew).trans (hb2.mono hbase)
        have HO2 := Lib.hid (own_below (show wr.drew.ownsRow w.heap.size 30 2 (.slice B k cc) k (prs fs) from HO.out) hb2)
        clear hb2 HO c0 c1 c2 c3 f0 f1 f2 f3
        go_wp2_with fail
        refine (l02Ok_any (z * p + p0) (z * q + q0) _).mono ?_
        rintro e wv ⟨rfl, hbv⟩
        have hbase2 : w.heap.size ≤ w2.heap.size := hB2.size
        have hb3 : Below w.heap.size w wv := Below.trans ((((((hB2.setCell (p := ⟨w1.heap.size, 0, none⟩) hbase1 _).setCell (p := ⟨w1.heap.size, 1, none⟩) hbase1 _).setCell (p := ⟨w1.heap.size, 2, none⟩) hbase1 _).setCell (p := ⟨w1.heap.size, 3, none⟩) hbase1 _).alloc (by simp; omega) _)) (hbv.mono (by simp; omega))
        clear hbv
        go_wp2_with fail
        go_ret2
        obtain ⟨e1, e2⟩ := cvg_none (HC.out.stop HZ1.out hv)
        rw [e1, e2]
        exact ⟨⟨none, 0, rfl, World.ownsRow_nil ..⟩, hb3⟩
      · obtain ⟨v1, v2, v3, v4, _⟩ := vfB_iff.1 hv
        have v1' : -1000000000 ≤ z * q + q0 := by omega
        go_wp2_with fail
        go_still_tail 5, (by kernel_rfl)
        change wpList _ _ _ _ _ wr.drew
        go_wp2_with fail
        refine (next_any4 p q p0 q0 z _ y1 y2 p1 p2 q1 q2 p3 p4 q3 q4).mono ?_
        rintro e w2 ⟨rfl, hb2⟩
        have d0 : w2.cell? ⟨w1.heap.size, 0, none⟩ = some (.int .i64 p) := (hb2.cell (p := ⟨w1.heap.size, 0, none⟩) hgl).trans c0
        have d1 : w2.cell? ⟨w1.heap.size, 1, none⟩ = some (.int .i64 q) := (hb2.cell (p := ⟨w1.heap.size, 1, none⟩) hgl).trans c1
        have d2 : w2.cell? ⟨w1.heap.size, 2, none⟩ = some (.int .i64 p0) := (hb2.cell (p := ⟨w1.heap.size, 2, none⟩) hgl).trans c2
        have d3 : w2.cell? ⟨w1.heap.size, 3, none⟩ = some (.int .i64 q0) := (hb2.cell (p := ⟨w1.heap.size, 3, none⟩) hgl).trans c3
        have e0 : w2.frozen? ⟨w1.heap.size, 0, none⟩ = false := (hb2.frozen (p := ⟨w1.heap.size, 0, none⟩) hgl).trans f0
        have e1 : w2.frozen? ⟨w1.heap.size, 1, none⟩ = false := (hb2.frozen (p := ⟨w1.heap.size, 1, none⟩) hgl).trans f1
        have e2 : w2.frozen? ⟨w1.heap.size, 2, none⟩ = false := (hb2.frozen (p := ⟨w1.heap.size, 2, none⟩) hgl).trans f2
        have e3 : w2.frozen? ⟨w1.heap.size, 3, none⟩ = false := (hb2.frozen (p := ⟨w1.heap.size, 3, none⟩) hgl).trans f3
        have hl2 : w1.heap.size < w2.heap.size := Nat.lt_of_lt_of_le hgl hb2.size
        have hB2 : Below w.heap.size w w2 := (hB.drew).trans (hb2.mono hbase)
        have HO2 := Lib.hid (own_below (show wr.drew.ownsRow w.heap.size 30 2 (.slice B k cc) k (prs fs) from HO.out) hb2)
        clear hb2 HO c0 c1 c2 c3 f0 f1 f2 f3
        go_wp2_with fail
        refine (l02Ok_any (z * p + p0) (z * q + q0) _).mono ?_
        rintro e wv ⟨rfl, hbv⟩
        have hbase2 : w.heap.size ≤ w2.heap.size := hB2.size
        have hb3 : Below w.heap.size w wv := Below.trans ((((((hB2.setCell (p := ⟨w1.heap.size, 0, none⟩) hbase1 _).setCell (p := ⟨w1.heap.size, 1, none⟩) hbase1 _).setCell (p := ⟨w1.heap.size, 2, none⟩) hbase1 _).setCell (p := ⟨w1.heap.size, 3, none⟩) hbase1 _).alloc (by simp; omega) _)) (hbv.mono (by simp; omega))
        obtain ⟨c0, c1, c2, c3, f0, f1, f2, f3, b0, b1, HO3, hlv⟩ := cvg_keep hl2 d0 d1 d2 d3 e0 e1 e2 e3 HO2.out HNE.out hbv
        replace HO3 := Lib.hid HO3
        have hl3 : w1.heap.size < wv.heap.size := Nat.lt_trans hl2 hlv
        have hbase3 : w.heap.size ≤ wv.heap.size := hb3.size
        clear hbv d0 d1 d2 d3 e0 e1 e2 e3 HO2
        go_wp2_with (first | (at_builtin; refine wpList_append_lies _ rfl (.tmp 30) (.tmp 32) 26 rfl w.heap.size 30 i0 (.agg #[.int .i64 0, .int .i64 0]) 2 16 Try.underlying26 hi hz0 hz1 hz2 rfl (by decide) _ k (prs fs) (by rfl) (HO3.out.alloc _) ⟨wv.heap.size, 0, none⟩ 1 1 [.int .i64 (z * p + p0), .int .i64 (z * q + q0)] (by rfl) rfl ?cells (by simp [Value.oneCell']) (by decide) (by show k + 1 ≤ 9223372036854775807; omega) (by omega) (by simp; omega) (wv.heap.size + 1) (by simp) ?_; rotate_left; intro g cap1 wn hown1 hgrow hat hlt1))
        case cells => exact fun j u hu => newcell (by simp) hu
        go_roundw
        case rel =>
          have hc' : ∀ j u, wv.cell? ⟨w1.heap.size, j, none⟩ = some u → wn.cell? ⟨w1.heap.size, j, none⟩ = some u := fun j u hu => hgrow.cell ((World.cell?_alloc_lt _ _ _ hl3).trans hu) (fun e => HNE.out e.symm)
          have hf' : ∀ j, wv.frozen? ⟨w1.heap.size, j, none⟩ = false → wn.frozen? ⟨w1.heap.size, j, none⟩ = false := fun j hu => (hgrow.frozen_far _ (by simp; omega) (fun e => HNE.out e.symm)).trans ((World.frozen?_of_block (Below.heap_alloc wv _ _ hl3)).trans hu)
          refine ⟨k + 1, z * p + p0, z * q + q0, p, q, _, _, fs ++ [(z * p + p0, z * q + q0)], by omega, by go_num, rfl, hc' 0 _ c0, hc' 1 _ c1, hc' 2 _ c2, hc' 3 _ c3, hf' 0 f0, hf' 1 f1, hf' 2 f2, hf' 3 f3, v3, v4, v1', v2, p1, p2, q1, q2, by rw [prs_append]; exact hown1, ?_, ?_, HC.out.step HZ1.out hv, (hb3.alloc hbase3 _).grown hgrow (by simp; omega) (fun k hk => (HF.out k hk).1)⟩
          · rcases hat with h | h
            · intro e; exact HNE.out (h.trans (by simpa [Value.ownBlock] using e))
            · simp [Value.ownBlock]; omega
          · exact Nat.lt_of_lt_of_le hl3 (Nat.le_trans (by simp) hgrow.size)
        case measure => simp [intOf]; omega
    · obtain rfl : n = k := by omega
      go_wp2_with fail
      go_ret2
      obtain ⟨e1, e2⟩ := cvg_some (HC.out.done (by rw [HL.out]; exact Nat.le_refl _))
      have hl := own_lenP HO.out
      rw [e1, e2]
      subst hl
      exact ⟨⟨B, cc, rfl, HO.out⟩, hB⟩
end Go.Proofs.Ytlpglibnjmjjkaa
