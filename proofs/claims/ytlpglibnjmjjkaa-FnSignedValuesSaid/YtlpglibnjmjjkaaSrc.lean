/-
  The reference's source of choices: contracts of its steps.
  No condition but those of the law's own text.
-/
import Derived.Test.YtlpglibnjmjjkaaProg
import Derived.Test.YtlpglibnjmjjkaaMem
import Derived.Test.YtlpglibnjmjjkaaBasic
import Derived.Test.YtlpglibnjmjjkaaSig
import Derived.Test.YtlpglibnjmjjkaaMarks
import Derived.Test.YtlpglibnjmjjkaaOwn
import Derived.Test.YtlpglibnjmjjkaaFrac3
import Derived.Handy
import Derived.BigQuiet
import Derived.RegionTactic
import Derived.BigRegion
import Derived.Deep.QuietTactic
import Derived.Deep.RegionHeld3
import Derived.Deep.DrawnRows
import Derived.Deep.AppendLies
namespace Go.Proofs.Ytlpglibnjmjjkaa
open Go.RowKit
set_option linter.unusedVariables false
attribute [local go_sem ↓] Go.wp_at_zero Go.wp_at_succ

/-- n bytes lie at A. -/
def BRow (w : World) (A : Option Addr) (n : Nat) (xs : List Int) : Prop := xs.length = n ∧ n ≤ 9223372036854775807 ∧ (∀ x ∈ xs, 0 ≤ x ∧ x ≤ 255) ∧ Rd w A (xs.map (Value.int .u8))
/-- A source of choices lies at block g. -/
def Src (w : World) (g : Nat) (A : Option Addr) (n cap at_ : Nat) : Prop :=
  w.cell? ⟨g, 0, none⟩ = some (.slice A n cap) ∧ w.cell? ⟨g, 1, none⟩ = some (.int .i64 at_) ∧ w.frozen? ⟨g, 1, none⟩ = false ∧ w.frozen? ⟨g, 2, none⟩ = false ∧
  ∃ s : Int, 0 ≤ s ∧ s < 18446744073709551616 ∧ w.cell? ⟨g, 2, none⟩ = some (.int .u64 s)

/-- Of what was there nothing but block g has turned. -/
def Kg (g : Nat) (w w' : World) : Prop := w.heap.size ≤ w'.heap.size ∧ ∀ i, i < w.heap.size → i ≠ g → w'.heap[i]? = w.heap[i]?
theorem Kg.refl (g : Nat) (w : World) : Kg g w w := ⟨Nat.le_refl _, fun _ _ _ => rfl⟩
theorem Kg.trans {g : Nat} {w w1 w2 : World} (h : Kg g w w1) (h' : Kg g w1 w2) : Kg g w w2 := ⟨Nat.le_trans h.1 h'.1, fun i hi hg => (h'.2 i (Nat.lt_of_lt_of_le hi h.1) hg).trans (h.2 i hi hg)⟩
theorem Kg.drewN {g : Nat} {w w1 : World} (h : Kg g w w1) (m : Nat) : Kg g w (w1.drewN m) := h
theorem Kg.below {g : Nat} {w w1 w2 : World} (h : Kg g w w1) (hb : Below w1.heap.size w1 w2) : Kg g w w2 := h.trans ⟨hb.size, fun i hi _ => hb.block i hi⟩
theorem Kg.set {g : Nat} {w w1 : World} (h : Kg g w w1) (o : Nat) (v : Value) : Kg g w (w1.setCell ⟨g, o, none⟩ v) := by
  refine ⟨by simpa using h.1, fun i hi hg => ?_⟩
  rw [← h.2 i hi hg]
  exact Below.heap_setCell w1 _ v i hg
theorem Kg.cell {g : Nat} {w w1 : World} (h : Kg g w w1) {p : Addr} (hp : p.block < w.heap.size) (hg : p.block ≠ g) : w1.cell? p = w.cell? p := World.cell?_of_block (w := w) (h.2 p.block hp hg)
theorem Kg.frozen {g : Nat} {w w1 : World} (h : Kg g w w1) {p : Addr} (hp : p.block < w.heap.size) (hg : p.block ≠ g) : w1.frozen? p = w.frozen? p := World.frozen?_of_block (w := w) (h.2 p.block hp hg)

theorem src_set {w0 w : World} {g n cap k B : Nat} {A : Option Addr} (h : Src w g A n cap k) (hB : Below B w0 w) (hg : B ≤ g) (m : Nat) (v : Int) (v0 : 0 ≤ v) (v1 : v < 18446744073709551616) :
    Src (((w.drewN m).setCell ⟨g, 1, none⟩ (.int .i64 ((k : Int) + 1))).setCell ⟨g, 2, none⟩ (.int .u64 v)) g A n cap (k + 1) ∧ Below B w0 (((w.drewN m).setCell ⟨g, 1, none⟩ (.int .i64 ((k : Int) + 1))).setCell ⟨g, 2, none⟩ (.int .u64 v)) ∧ Kg g w (((w.drewN m).setCell ⟨g, 1, none⟩ (.int .i64 ((k : Int) + 1))).setCell ⟨g, 2, none⟩ (.int .u64 v)) := by
  obtain ⟨c0, c1, f1, f2, s, s0, s1, c2⟩ := h
  have d0 : (w.drewN m).cell? ⟨g, 0, none⟩ = some (.slice A n cap) := by simpa using c0
  have d1 : (w.drewN m).cell? ⟨g, 1, none⟩ = some (.int .i64 k) := by simpa using c1
  have d2 : (w.drewN m).cell? ⟨g, 2, none⟩ = some (.int .u64 s) := by simpa using c2
  refine ⟨⟨setO (by simp) (setO (by simp) d0), setO (by simp) (by have := setS (v := .int .i64 ((k : Int) + 1)) d1; exact_mod_cast this), ?_, ?_, v, v0, v1, setS (setO (by simp) d2)⟩, (((hB.trans (below_drewN _ _ _)).setCell (p := ⟨g, 1, none⟩) hg _).setCell (p := ⟨g, 2, none⟩) hg _), (((Kg.refl g w).drewN m).set 1 _).set 2 _⟩
  · simpa using f1
  · simpa using f2

theorem mask255 (x : Int) (h0 : 0 ≤ x) (h1 : x < 9223372036854775808) : 0 ≤ wrap64 (bits .and .u64 x 255) ∧ wrap64 (bits .and .u64 x 255) ≤ 255 := by
  have h := bits_mask .u64 63 (by decide) (fun n h0 h1 => by rw [IntKind.wrap_u64]; omega) 8 (by decide) x h0 (by omega)
  have e : ((2 : Int) ^ 8 - 1) = 255 := by decide
  have e2 : ((2 : Int) ^ 8) = 256 := by decide
  rw [e, e2] at h
  rw [h]
  unfold wrap64
  omega
theorem src_drewN {w : World} {g n cap k : Nat} {A : Option Addr} (h : Src w g A n cap k) (m : Nat) : Src (w.drewN m) g A n cap k := by
  obtain ⟨c0, c1, f1, f2, s, s0, s1, c2⟩ := h
  exact ⟨by simpa using c0, by simpa using c1, by simpa using f1, by simpa using f2, s, s0, s1, by simpa using c2⟩
theorem u64_wrap (z : Int) : 0 ≤ IntKind.u64.wrap z ∧ IntKind.u64.wrap z < 18446744073709551616 := by rw [IntKind.wrap_u64]; omega

set_option maxHeartbeats 1600000 in
theorem next_core (g : Nat) (A : Option Addr) (n cap k B : Nat) (xs : List Int) (w0 w : World) (h : Src w g A n cap k) (hx : BRow w A n xs) (hk : k ≤ 1000) (hB : Below B w0 w) (hg : B ≤ g) :
    Calls Try.prog 63 #[.pointer (some ⟨g, 0, none⟩)] w fun e w' => (∃ r : Int, e = .returned (.int .i64 r) ∧ 0 ≤ r ∧ r ≤ 255) ∧ Src w' g A n cap (k + 1) ∧ Below B w0 w' ∧ Kg g w w' := by
  have HS := Lib.hid h
  have HB := Lib.hid hB
  obtain ⟨c0, c1, f1, f2, s, s0, s1, c2⟩ := h
  obtain ⟨xl, xn, xb, xr⟩ := hx
  clear hB
  by_cases hlt : k < n
  · obtain ⟨x, hx⟩ : ∃ x, xs[k]? = some x := ⟨_, List.getElem?_eq_getElem (by omega)⟩
    obtain ⟨ad, rfl, hc⟩ := xr k (.int .u8 x) (by rw [List.getElem?_map, hx]; rfl)
    obtain ⟨x0, x1⟩ := xb x (List.mem_of_getElem? hx)
    clear xr xb hx
    go_enter Try.func63, Try.ntmps63
    go_wp2_with fail
    go_quiet (fail)
    rename Nat => nq1
    go_wp2_with fail
    go_quiet (fail)
    go_wp2_with fail
    have hu := u64_wrap (IntKind.u64.wrap (IntKind.u64.wrap (s * 6364136223846793005) + x) + 1442695040888963407)
    generalize IntKind.u64.wrap (IntKind.u64.wrap (IntKind.u64.wrap (s * 6364136223846793005) + x) + 1442695040888963407) = v at hu ⊢
    have hSB := src_set HS.out HB.out hg (nq1 + nq) v hu.1 hu.2
    clear c0 c1 f1 f2 c2
    generalize ((w.drewN (nq1 + nq)).setCell ⟨g, 1, none⟩ (.int .i64 ((k : Int) + 1))).setCell ⟨g, 2, none⟩ (.int .u64 v) = W at hSB ⊢
    obtain ⟨hS1, hB1, hK1⟩ := hSB
    have HK1 := Lib.hid hK1
    clear hK1
    have HS1 := Lib.hid hS1
    have HB1 := Lib.hid hB1
    clear hB1
    obtain ⟨c0, c1, f1, f2, s', s0', s1', c2⟩ := hS1
    clear hc
    go_quiet (fail)
    go_wp2_with fail
    go_ret
    exact ⟨⟨_, rfl, x0, x1⟩, src_drewN HS1.out _, HB1.out.trans (below_drewN _ _ _), HK1.out.drewN _⟩
  · go_enter Try.func63, Try.ntmps63
    go_wp2_with fail
    go_quiet (fail)
    go_wp2_with fail
    have hu := u64_wrap (IntKind.u64.wrap (IntKind.u64.wrap (s * 6364136223846793005)) + 1442695040888963407)
    generalize IntKind.u64.wrap (IntKind.u64.wrap (IntKind.u64.wrap (s * 6364136223846793005)) + 1442695040888963407) = v at hu ⊢
    have hSB := src_set HS.out HB.out hg nq v hu.1 hu.2
    clear c0 c1 f1 f2 c2
    generalize ((w.drewN nq).setCell ⟨g, 1, none⟩ (.int .i64 ((k : Int) + 1))).setCell ⟨g, 2, none⟩ (.int .u64 v) = W at hSB ⊢
    obtain ⟨hS1, hB1, hK1⟩ := hSB
    have HK1 := Lib.hid hK1
    clear hK1
    have HS1 := Lib.hid hS1
    have HB1 := Lib.hid hB1
    clear hB1
    obtain ⟨c0, c1, f1, f2, s', s0', s1', c2⟩ := hS1
    go_quiet (fail)
    go_wp2_with fail
    go_ret
    have hm := mask255 (s' / 1099511627776) (by omega) (by omega)
    exact ⟨⟨_, rfl, hm.1, hm.2⟩, src_drewN HS1.out _, HB1.out.trans (below_drewN _ _ _), HK1.out.drewN _⟩


theorem BRow.below {w w' : World} {A : Option Addr} {n : Nat} {xs : List Int} (h : BRow w A n xs) (hb : Below w.heap.size w w') : BRow w' A n xs :=
  ⟨h.1, h.2.1, h.2.2.1, h.2.2.2.below hb⟩
/-- A source, K choices at most behind its start; of what was there when it was made nothing has turned. -/
def St (g : Nat) (A : Option Addr) (n cap K : Nat) (w0 w : World) : Prop := (∃ k, k ≤ K ∧ Src w g A n cap k) ∧ Below w0.heap.size w0 w
theorem St.mono {g : Nat} {A : Option Addr} {n cap K K' : Nat} {w0 w : World} (h : St g A n cap K w0 w) (hk : K ≤ K') : St g A n cap K' w0 w := by
  obtain ⟨⟨k, h1, h2⟩, h3⟩ := h
  exact ⟨⟨k, Nat.le_trans h1 hk, h2⟩, h3⟩
theorem Src.kept {g : Nat} {A : Option Addr} {n cap k : Nat} {w w' : World} (h : Src w g A n cap k) (hb : Below w.heap.size w w') : Src w' g A n cap k := by
  have hl := World.block_lt_of_cell? w _ h.1
  obtain ⟨c0, c1, f1, f2, s, s0, s1, c2⟩ := h
  exact ⟨(hb.cell (p := ⟨g, 0, none⟩) hl).trans c0, (hb.cell (p := ⟨g, 1, none⟩) hl).trans c1, (hb.frozen (p := ⟨g, 1, none⟩) hl).trans f1, (hb.frozen (p := ⟨g, 2, none⟩) hl).trans f2, s, s0, s1, (hb.cell (p := ⟨g, 2, none⟩) hl).trans c2⟩
theorem St.below {g : Nat} {A : Option Addr} {n cap K : Nat} {w0 w w' : World} (h : St g A n cap K w0 w) (hb : Below w.heap.size w w') : St g A n cap K w0 w' := by
  obtain ⟨⟨k, h1, h2⟩, h3⟩ := h
  exact ⟨⟨k, h1, h2.kept hb⟩, h3.trans (hb.mono h3.size)⟩
theorem Kg.other {g : Nat} {w w1 : World} (h : Kg g w w1) {b : Nat} (hb : w.heap.size ≤ b) (o : Nat) (v : Value) : Kg g w (w1.setCell ⟨b, o, none⟩ v) := by
  refine ⟨by simpa using h.1, fun i hi hg => ?_⟩
  rw [← h.2 i hi hg]
  exact Below.heap_setCell w1 _ v i (by show i ≠ b; omega)
theorem St.set {g : Nat} {A : Option Addr} {n cap K : Nat} {w0 w : World} (h : St g A n cap K w0 w) {b : Nat} (hne : g ≠ b) (hb : w0.heap.size ≤ b) (o : Nat) (v : Value) : St g A n cap K w0 (w.setCell ⟨b, o, none⟩ v) := by
  obtain ⟨⟨k, h1, c0, c1, f1, f2, s, s0, s1, c2⟩, h3⟩ := h
  have e : ∀ j, (⟨b, o, none⟩ : Addr) ≠ ⟨g, j, none⟩ := fun j e => by injection e with e; exact hne e.symm
  exact ⟨⟨k, h1, setO (e 0) c0, setO (e 1) c1, setF f1, setF f2, s, s0, s1, setO (e 2) c2⟩, h3.setCell (p := ⟨b, o, none⟩) hb _⟩
theorem St.lt {g : Nat} {A : Option Addr} {n cap K : Nat} {w0 w : World} (h : St g A n cap K w0 w) : g < w.heap.size := by
  obtain ⟨⟨k, _, h2⟩, _⟩ := h
  exact World.block_lt_of_cell? w _ h2.1
theorem next_any (g : Nat) (A : Option Addr) (n cap K : Nat) (xs : List Int) (w0 w : World) (h : St g A n cap K w0 w) (hx : BRow w0 A n xs) (hk : K ≤ 1000) (hg : w0.heap.size ≤ g) :
    Calls Try.prog 63 #[.pointer (some ⟨g, 0, none⟩)] w fun e w' => (∃ r : Int, e = .returned (.int .i64 r) ∧ 0 ≤ r ∧ r ≤ 255) ∧ St g A n cap (K + 1) w0 w' ∧ Kg g w w' := by
  obtain ⟨⟨k, h1, h2⟩, h3⟩ := h
  refine (next_core g A n cap k _ xs w0 w h2 (hx.below h3) (by omega) h3 hg).mono ?_
  rintro e w' ⟨hr, hs, hb, hk'⟩
  exact ⟨hr, ⟨⟨k + 1, by omega, hs⟩, hb⟩, hk'⟩
set_option maxHeartbeats 1600000 in
theorem pick_any (g : Nat) (A : Option Addr) (n cap K : Nat) (xs : List Int) (m : Int) (w0 w : World) (h : St g A n cap K w0 w) (hx : BRow w0 A n xs) (hk : K ≤ 900) (hg : w0.heap.size ≤ g) (h1 : 1 ≤ m) (h2 : m ≤ 60000) :
    Calls Try.prog 38 #[.pointer (some ⟨g, 0, none⟩), .int .i64 m] w fun e w' => (∃ r : Int, e = .returned (.int .i64 r) ∧ 0 ≤ r ∧ r < m) ∧ St g A n cap (K + 2) w0 w' ∧ Kg g w w' := by
  have HX := Lib.hid hx
  have H := Lib.hid h
  clear hx h
  by_cases hm : m ≤ 1
  · go_enter Try.func38, Try.ntmps38
    go_wp2_with fail
    go_ret
    exact ⟨⟨0, rfl, by omega, by omega⟩, H.out.mono (by omega), Kg.refl _ _⟩
  · have HM := fun r => Int.emod_nonneg r (show m ≠ 0 by omega)
    have HM' := fun r => Int.emod_lt_of_pos r (show 0 < m by omega)
    replace HM := Lib.hid HM
    replace HM' := Lib.hid HM'
    by_cases hm2 : (200 : Int) < m
    · go_enter Try.func38, Try.ntmps38
      go_wp2_with fail
      refine (next_any g A n cap K xs w0 w H.out HX.out (by omega) hg).mono ?_
      rintro e w1 ⟨⟨r, rfl, r0, r1⟩, hs1, hk1⟩
      have H1 := Lib.hid hs1
      have K1 := Lib.hid hk1
      clear hs1 hk1 H
      go_wp2_with fail
      refine (next_any g A n cap (K + 1) xs w0 w1 H1.out HX.out (by omega) hg).mono ?_
      rintro e w2 ⟨⟨r', rfl, r0', r1'⟩, hs2, hk2⟩
      have H2 := Lib.hid hs2
      have K2 := Lib.hid hk2
      clear hs2 hk2
      go_wp2_with fail
      go_ret
      exact ⟨⟨_, rfl, HM.out _, HM'.out _⟩, H2.out, K1.out.trans K2.out⟩
    · go_enter Try.func38, Try.ntmps38
      go_wp2_with fail
      refine (next_any g A n cap K xs w0 w H.out HX.out (by omega) hg).mono ?_
      rintro e w1 ⟨⟨r, rfl, r0, r1⟩, hs1, hk1⟩
      have H1 := Lib.hid hs1
      have K1 := Lib.hid hk1
      clear hs1 hk1 H
      go_wp2_with fail
      go_ret
      exact ⟨⟨_, rfl, HM.out _, HM'.out _⟩, H1.out.mono (by omega), K1.out⟩
theorem one_any (g : Nat) (A : Option Addr) (n cap K : Nat) (xs : List Int) (m : Int) (w0 w : World) (h : St g A n cap K w0 w) (hx : BRow w0 A n xs) (hk : K ≤ 900) (hg : w0.heap.size ≤ g) (h1 : 1 ≤ m) (h2 : m ≤ 60000) :
    Calls Try.prog 62 #[.pointer (some ⟨g, 0, none⟩), .int .i64 m] w fun e w' => (∃ b : Bool, e = .returned (.bool b)) ∧ St g A n cap (K + 2) w0 w' ∧ Kg g w w' := by
  have HP := Lib.hid (pick_any g A n cap K xs m w0 w h hx hk hg h1 h2)
  clear h hx
  go_enter Try.func62, Try.ntmps62
  go_wp2_with fail
  refine HP.out.mono ?_
  rintro e w1 ⟨⟨r, rfl, r0, r1⟩, hs1, hk1⟩
  have H1 := Lib.hid hs1
  have K1 := Lib.hid hk1
  clear hs1 hk1
  go_wp2_with fail
  go_ret
  exact ⟨⟨_, rfl⟩, H1.out, K1.out⟩
theorem l00From_any (A : Option Addr) (n cap : Nat) (w : World) :
    Calls Try.prog 23 #[.slice A n cap] w fun e w' => e = .returned (.pointer (some ⟨w.heap.size, 0, none⟩)) ∧ St w.heap.size A n cap 0 w w' := by
  go_enter Try.func23, Try.ntmps23
  go_wp2_with fail
  go_ret
  exact ⟨rfl, ⟨0, Nat.le_refl _, by simp [go_sem], by simp [go_sem], by simp, by simp, 0, by omega, by omega, by simp [go_sem]⟩, (Below.refl _ _).alloc (Nat.le_refl _) _⟩

theorem make_ok {num den : Int} (h1 : -300 ≤ num) (h2 : num ≤ 300) (h3 : 1 ≤ den) (h4 : den ≤ 300) :
    vfB (num.tdiv (Int.gcd num den : Nat)) (den.tdiv (Int.gcd num den : Nat)) = true ∧ -300 ≤ num.tdiv (Int.gcd num den : Nat) ∧ num.tdiv (Int.gcd num den : Nat) ≤ 300 ∧ den.tdiv (Int.gcd num den : Nat) ≤ 300 := by
  have hg : 0 < Int.gcd num den := gcd_pos (a := num) (.inr (show 0 < den by omega))
  have e1 : num.tdiv (Int.gcd num den : Nat) = num / (Int.gcd num den : Nat) := Int.tdiv_eq_ediv_of_dvd (Int.gcd_dvd_left ..)
  have e2 : den.tdiv (Int.gcd num den : Nat) = den / (Int.gcd num den : Nat) := Int.tdiv_eq_ediv_of_dvd (Int.gcd_dvd_right ..)
  have hc : Int.gcd (num / (Int.gcd num den : Nat)) (den / (Int.gcd num den : Nat)) = 1 := Int.gcd_ediv_gcd_ediv_gcd hg
  have b1 := tdiv_bd num (Int.gcd num den : Nat)
  have b2 := tdiv_bd den (Int.gcd num den : Nat)
  have hd : den / (Int.gcd num den : Nat) * (Int.gcd num den : Nat) = den := Int.ediv_mul_cancel (Int.gcd_dvd_right ..)
  have hp : 1 ≤ den / (Int.gcd num den : Nat) := by
    rcases Int.lt_or_le (den / (Int.gcd num den : Nat)) 1 with hl | hl
    · exfalso
      have : den / (Int.gcd num den : Nat) * (Int.gcd num den : Nat) ≤ 0 * (Int.gcd num den : Nat) := Int.mul_le_mul_of_nonneg_right (by omega) (by omega)
      omega
    · exact hl
  rw [e1, e2] at *
  refine ⟨vfB_iff.2 ⟨hp, by omega, by omega, by omega, hc⟩, by omega, by omega, by omega⟩
/-- A drawn fraction. -/
def DrwF (x y : Int) : Prop := vfB x y = true ∧ -300 ≤ x ∧ x ≤ 300 ∧ y ≤ 300
set_option maxHeartbeats 1600000 in
theorem l02Draw_any (g : Nat) (A : Option Addr) (n cap K : Nat) (xs : List Int) (w0 w : World) (h : St g A n cap K w0 w) (hx : BRow w0 A n xs) (hk : K ≤ 800) (hg : w0.heap.size ≤ g) :
    Calls Try.prog 37 #[.pointer (some ⟨g, 0, none⟩), .int .i64 300] w fun e w' => (∃ x y : Int, e = .returned (.agg #[.int .i64 x, .int .i64 y]) ∧ DrwF x y) ∧ St g A n cap (K + 8) w0 w' ∧ Kg g w w' := by
  have hgl := h.lt
  have HX := Lib.hid hx
  have H := Lib.hid (h.below (((Below.refl _ _).alloc (Nat.le_refl _) (.cells #[.int .i64 0, .int .i64 0] 30)) : Below w.heap.size w _))
  have K0 := Lib.hid ((Kg.refl g w).below ((Below.refl _ _).alloc (Nat.le_refl _) (.cells #[.int .i64 0, .int .i64 0] 30)))
  have Z0 := Lib.hid (show ∀ k, k < 2 → (w.alloc (.cells #[.int .i64 0, .int .i64 0] 30)).cell? ⟨w.heap.size, k, none⟩ = some (.int .i64 0) ∧ (w.alloc (.cells #[.int .i64 0, .int .i64 0] 30)).frozen? ⟨w.heap.size, k, none⟩ = false from fun k hk => by
    rcases (by omega : k = 0 ∨ k = 1) with rfl | rfl
    · exact ⟨newcellA rfl rfl, by simp⟩
    · exact ⟨newcellA rfl rfl, by simp⟩)
  clear hx h
  go_enter Try.func37, Try.ntmps37
  go_wp2_with fail
  refine (pick_any g A n cap K xs 601 w0 _ H.out HX.out (by omega) hg (by omega) (by omega)).mono ?_
  rintro e w1 ⟨⟨r1, rfl, a1, a2⟩, hs1, hk1⟩
  have H1 := Lib.hid hs1
  have K1 := Lib.hid (K0.out.trans hk1)
  have Z1 := Lib.hid (show ∀ k, k < 2 → w1.cell? ⟨w.heap.size, k, none⟩ = some (.int .i64 0) ∧ w1.frozen? ⟨w.heap.size, k, none⟩ = false from fun k hk => ⟨(hk1.cell (p := ⟨w.heap.size, k, none⟩) (by simp) (by simp; omega)).trans (Z0.out k hk).1, (hk1.frozen (p := ⟨w.heap.size, k, none⟩) (by simp) (by simp; omega)).trans (Z0.out k hk).2⟩)
  have l1 : w.heap.size < w1.heap.size := by have := hk1.1; simp at this; omega
  clear hs1 hk1 H K0 Z0
  go_wp2_with fail
  refine (one_any g A n cap (K + 2) xs 2 w0 _ H1.out HX.out (by omega) hg (by omega) (by omega)).mono ?_
  rintro e w2 ⟨⟨b, rfl⟩, hs2, hk2⟩
  have H2 := Lib.hid hs2
  have K2 := Lib.hid (K1.out.trans hk2)
  have Z2 := Lib.hid (show ∀ k, k < 2 → w2.cell? ⟨w.heap.size, k, none⟩ = some (.int .i64 0) ∧ w2.frozen? ⟨w.heap.size, k, none⟩ = false from fun k hk => ⟨(hk2.cell (p := ⟨w.heap.size, k, none⟩) l1 (by simp; omega)).trans (Z1.out k hk).1, (hk2.frozen (p := ⟨w.heap.size, k, none⟩) l1 (by simp; omega)).trans (Z1.out k hk).2⟩)
  have l2 : w.heap.size < w2.heap.size := Nat.lt_of_lt_of_le l1 hk2.1
  clear hs2 hk2 H1 K1 Z1
  cases b
  · go_wp2_with fail
    refine (pick_any g A n cap (K + 4) xs 300 w0 _ H2.out HX.out (by omega) hg (by omega) (by omega)).mono ?_
    rintro e w3 ⟨⟨r9, rfl, a3, a4⟩, hs3, hk3⟩
    have H3 := Lib.hid hs3
    have K3 := Lib.hid (K2.out.trans hk3)
    have Z3 := Lib.hid (show ∀ k, k < 2 → w3.cell? ⟨w.heap.size, k, none⟩ = some (.int .i64 0) ∧ w3.frozen? ⟨w.heap.size, k, none⟩ = false from fun k hk => ⟨(hk3.cell (p := ⟨w.heap.size, k, none⟩) l2 (by simp; omega)).trans (Z2.out k hk).1, (hk3.frozen (p := ⟨w.heap.size, k, none⟩) l2 (by simp; omega)).trans (Z2.out k hk).2⟩)
    have l3 : w.heap.size < w3.heap.size := Nat.lt_of_lt_of_le l2 hk3.1
    clear hs3 hk3 H2 K2 Z2
    go_wp2_with fail
    refine (l02Make_any (r1 - 300) (1 + r9) _ (by omega) (by omega) (by omega) (by omega)).mono ?_
    obtain ⟨m1, m2, m3, m4⟩ := make_ok (num := r1 - 300) (den := 1 + r9) (by omega) (by omega) (by omega) (by omega)
    generalize (r1 - 300).tdiv (Int.gcd (r1 - 300) (1 + r9) : Nat) = x at *
    generalize (1 + r9).tdiv (Int.gcd (r1 - 300) (1 + r9) : Nat) = y at *
    have HD := Lib.hid (show DrwF x y from ⟨m1, m2, m3, m4⟩)
    clear m1 m2 m3 m4
    rintro e w10 ⟨rfl, hb⟩
    have H10 := Lib.hid (H3.out.below hb)
    have K10 := Lib.hid (K3.out.below hb)
    have z0 : w10.cell? ⟨w.heap.size, 0, none⟩ = some (.int .i64 0) := (hb.cell (p := ⟨w.heap.size, 0, none⟩) l3).trans (Z3.out 0 (by omega)).1
    have z1 : w10.cell? ⟨w.heap.size, 1, none⟩ = some (.int .i64 0) := (hb.cell (p := ⟨w.heap.size, 1, none⟩) l3).trans (Z3.out 1 (by omega)).1
    have f0 : w10.frozen? ⟨w.heap.size, 0, none⟩ = false := (hb.frozen (p := ⟨w.heap.size, 0, none⟩) l3).trans (Z3.out 0 (by omega)).2
    have f1 : w10.frozen? ⟨w.heap.size, 1, none⟩ = false := (hb.frozen (p := ⟨w.heap.size, 1, none⟩) l3).trans (Z3.out 1 (by omega)).2
    clear hb H3 K3 Z3
    go_wp2_with fail
    exact bodyPost_ret (v := .agg #[.int .i64 x, .int .i64 y]) (by simp [results, Try.results37, go_sem, pair_set z0 z1]) rfl ⟨⟨x, y, rfl, HD.out⟩, ((H10.out.set (b := w.heap.size) (by omega) (by have := H10.out.2.size; omega) 0 _).set (b := w.heap.size) (by omega) (by omega) 1 _).mono (by omega), (K10.out.other (Nat.le_refl _) 0 _).other (Nat.le_refl _) 1 _⟩
  · go_wp2_with fail
    refine (pick_any g A n cap (K + 4) xs 301 w0 _ H2.out HX.out (by omega) hg (by omega) (by omega)).mono ?_
    rintro e w3 ⟨⟨r2, rfl, a3, a4⟩, hs3, hk3⟩
    have H3 := Lib.hid hs3
    have K3 := Lib.hid (K2.out.trans hk3)
    have Z3 := Lib.hid (show ∀ k, k < 2 → w3.cell? ⟨w.heap.size, k, none⟩ = some (.int .i64 0) ∧ w3.frozen? ⟨w.heap.size, k, none⟩ = false from fun k hk => ⟨(hk3.cell (p := ⟨w.heap.size, k, none⟩) l2 (by simp; omega)).trans (Z2.out k hk).1, (hk3.frozen (p := ⟨w.heap.size, k, none⟩) l2 (by simp; omega)).trans (Z2.out k hk).2⟩)
    have l3 : w.heap.size < w3.heap.size := Nat.lt_of_lt_of_le l2 hk3.1
    clear hs3 hk3 H2 K2 Z2
    go_wp2_with fail
    refine (pick_any g A n cap (K + 6) xs 300 w0 _ H3.out HX.out (by omega) hg (by omega) (by omega)).mono ?_
    rintro e w4 ⟨⟨r9, rfl, a5, a6⟩, hs4, hk4⟩
    have H4 := Lib.hid hs4
    have K4 := Lib.hid (K3.out.trans hk4)
    have Z4 := Lib.hid (show ∀ k, k < 2 → w4.cell? ⟨w.heap.size, k, none⟩ = some (.int .i64 0) ∧ w4.frozen? ⟨w.heap.size, k, none⟩ = false from fun k hk => ⟨(hk4.cell (p := ⟨w.heap.size, k, none⟩) l3 (by simp; omega)).trans (Z3.out k hk).1, (hk4.frozen (p := ⟨w.heap.size, k, none⟩) l3 (by simp; omega)).trans (Z3.out k hk).2⟩)
    have l4 : w.heap.size < w4.heap.size := Nat.lt_of_lt_of_le l3 hk4.1
    clear hs4 hk4 H3 K3 Z3
    go_wp2_with fail
    refine (l02Make_any r2 (1 + r9) _ (by omega) (by omega) (by omega) (by omega)).mono ?_
    obtain ⟨m1, m2, m3, m4⟩ := make_ok (num := r2) (den := 1 + r9) (by omega) (by omega) (by omega) (by omega)
    generalize (r2).tdiv (Int.gcd (r2) (1 + r9) : Nat) = x at *
    generalize (1 + r9).tdiv (Int.gcd (r2) (1 + r9) : Nat) = y at *
    have HD := Lib.hid (show DrwF x y from ⟨m1, m2, m3, m4⟩)
    clear m1 m2 m3 m4
    rintro e w10 ⟨rfl, hb⟩
    have H10 := Lib.hid (H4.out.below hb)
    have K10 := Lib.hid (K4.out.below hb)
    have z0 : w10.cell? ⟨w.heap.size, 0, none⟩ = some (.int .i64 0) := (hb.cell (p := ⟨w.heap.size, 0, none⟩) l4).trans (Z4.out 0 (by omega)).1
    have z1 : w10.cell? ⟨w.heap.size, 1, none⟩ = some (.int .i64 0) := (hb.cell (p := ⟨w.heap.size, 1, none⟩) l4).trans (Z4.out 1 (by omega)).1
    have f0 : w10.frozen? ⟨w.heap.size, 0, none⟩ = false := (hb.frozen (p := ⟨w.heap.size, 0, none⟩) l4).trans (Z4.out 0 (by omega)).2
    have f1 : w10.frozen? ⟨w.heap.size, 1, none⟩ = false := (hb.frozen (p := ⟨w.heap.size, 1, none⟩) l4).trans (Z4.out 1 (by omega)).2
    clear hb H4 K4 Z4
    go_wp2_with fail
    exact bodyPost_ret (v := .agg #[.int .i64 x, .int .i64 y]) (by simp [results, Try.results37, go_sem, pair_set z0 z1]) rfl ⟨⟨x, y, rfl, HD.out⟩, ((H10.out.set (b := w.heap.size) (by omega) (by have := H10.out.2.size; omega) 0 _).set (b := w.heap.size) (by omega) (by omega) 1 _).mono (by omega), (K10.out.other (Nat.le_refl _) 0 _).other (Nat.le_refl _) 1 _⟩
end Go.Proofs.Ytlpglibnjmjjkaa
