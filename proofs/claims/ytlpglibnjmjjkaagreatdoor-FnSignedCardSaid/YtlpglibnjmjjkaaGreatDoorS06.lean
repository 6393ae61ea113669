/-
  The texts of terms with signs: contracts of the program's and of the reference's functions; the walk of the law FnExactSignedText.
  The draws of the law FnSigned; the names of kinds.
  The draws of pairs of lists of terms with signs, and of texts to read.
  The bound on the bytes from which something is drawn: contracts.
  An argument that is a slice of bytes, opened.
  The convergents of terms: contracts of the program's and of the reference's functions.
  The laws' comparison of equal lists of fractions.
  The convergents and the value of terms: contracts of the exported functions; the walks of the laws FnExactConvergentsOf and FnExactValueOfTerms.
  The value of terms: contracts of the exported functions; the walk of the law FnExactValueOfTerms.
  Conditions: those of the law's own text, and that the package-level variables hold what the program's text lays in them.
-/
import Derived.Test.YtlpglibnjmjjkaaGreatDoorProg
import Derived.Test.YtlpglibnjmjjkaaGreatDoorS01
import Derived.Test.YtlpglibnjmjjkaaGreatDoorS02
import Derived.Test.YtlpglibnjmjjkaaGreatDoorS05
import Derived.Handy
import Derived.BigQuiet
import Derived.Deep.QuietTactic
import Derived.Test.YtlpglibnjmjjkaaGreatDoorS03
import Derived.Test.YtlpglibnjmjjkaaGreatDoorS04
import Derived.Lib.ItoaLen
import Derived.RegionTactic
import Derived.BigRegion
import Derived.Deep.RegionHeld3
import Derived.Deep.DrawnRows
import Derived.Deep.AppendLies
import Derived.StillTailTactics
namespace Go.Proofs.YtlpglibnjmjjkaaGreatDoor
open Go.RowKit
set_option linter.unusedVariables false
set_option linter.unusedSimpArgs false
attribute [local go_sem ↓] Go.wp_at_zero Go.wp_at_succ

/-- The text of terms with signs as a string. -/
def sgS (zs : List (Int × Int)) : ByteArray := if sgnB zs = true then ⟨(sgL zs).toArray⟩ else ⟨#[]⟩
set_option maxRecDepth 100000 in
set_option maxHeartbeats 3200000 in
theorem l04Text_any (A : Option Addr) (n cap : Nat) (zs : List (Int × Int)) (w : World) (h : PRow w A n zs) (hv : sgnB zs = true) :
    Calls Tryz.prog 70 #[.slice A n cap] w fun e w' => e = .returned (.string ⟨(sgL zs).toArray⟩) ∧ Below w.heap.size w w' := by
  obtain ⟨h1, hn, hsg⟩ := sgn_in hv
  rw [h.len] at h1 hn
  obtain ⟨bb, oo, s, z, rfl, hz, _, _, z1, z2, _, hc⟩ := h.at_ (k := 0) (by omega)
  simp only [Nat.zero_mul, Nat.add_zero] at hc
  have hhd : (zs.headD (0, 0)).2 = z := by cases zs with | nil => cases hz | cons a r => simp at hz; simp [hz]
  have hs1 : (decS z).size ≤ 21 := decS_size z1 z2
  have HW := Lib.hid h
  have HH := Lib.hid hhd
  have HLen := Lib.hid h.len
  have HS := Lib.hid hsg
  clear h hz hhd hsg hv
  go_enter Tryz.func70, Tryz.ntmps70
  go_wp2_with fail
  refine (l01Dec_any z w z1 z2).mono ?_
  rintro e w1 ⟨rfl, hb1⟩
  have HB1 := Lib.hid hb1
  clear hb1 hc
  go_wp2_with fail
  go_loopw [3, 4] (fun a i wr => ∃ (k : Nat) (o : ByteArray), 1 ≤ k ∧ k ≤ n ∧ i = .int .i64 k ∧ a = .string o ∧ o.size ≤ 30 * k ∧ Hid (o.data.toList = sfL zs k) ∧ Below w.heap.size w wr) (fun _ i _ => n - (intOf i).toNat)
  case atStart => exact ⟨1, _, Nat.le_refl _, h1, rfl, rfl, by omega, by show _ = _; rw [decS_data, sfL_one, HH.out], HB1.out⟩
  case round =>
    obtain ⟨k, o, hk1, hkn, rfl, rfl, ho, HO, hbel⟩ := hrel
    by_cases hlt : k < n
    · obtain ⟨b', o', x, y, e, hy, _, _, y1, y2, hcx, hcy⟩ := (HW.out.below hbel).at_ hlt
      injection e with e
      injection e with e1 e2
      subst e1 e2
      have hs2 : (decS y).size ≤ 21 := decS_size y1 y2
      have HP := Lib.hid (sfL_step hk1 hy)
      have hx := (HS.out _ (List.mem_of_getElem? hy)).1
      simp only at hx
      have HB := Lib.hid hbel
      have hk60 : k ≤ 60 := by omega
      clear hy hbel
      rcases hx with hx | hx
      · have HX := Lib.hid (show mkS x = [32, 43] by unfold mkS; first | rw [if_pos (by omega)] | rw [if_neg (by omega)])
        have hx0 : x < 2 := by omega
        have hx1 : -2 < x := by omega
        subst hx
        go_wp2_with fail
        refine (l01Dec_any y wr y1 y2).mono ?_
        rintro e w2 ⟨rfl, hb2⟩
        have HB2 := Lib.hid (HB.out.trans (hb2.mono HB.out.size))
        clear hb2 hcy hcx
        go_wp2_with fail
        go_roundw
        case rel => exact ⟨k + 1, _, by omega, by omega, by go_num, rfl, by rw [size_app, size_app]; have : (⟨#[32, 43]⟩ : ByteArray).size = 2 := rfl; omega, by show _ = _; rw [data_app, data_app, decS_data, HO.out, HP.out, HX.out], HB2.out⟩
        case measure => simp [intOf]; omega
      · have HX := Lib.hid (show mkS x = [32, 45] by unfold mkS; first | rw [if_pos (by omega)] | rw [if_neg (by omega)])
        have hx0 : x < 2 := by omega
        have hx1 : -2 < x := by omega
        subst hx
        go_wp2_with fail
        refine (l01Dec_any y wr y1 y2).mono ?_
        rintro e w2 ⟨rfl, hb2⟩
        have HB2 := Lib.hid (HB.out.trans (hb2.mono HB.out.size))
        clear hb2 hcy hcx
        go_wp2_with fail
        go_roundw
        case rel => exact ⟨k + 1, _, by omega, by omega, by go_num, rfl, by rw [size_app, size_app]; have : (⟨#[32, 45]⟩ : ByteArray).size = 2 := rfl; omega, by show _ = _; rw [data_app, data_app, decS_data, HO.out, HP.out, HX.out], HB2.out⟩
        case measure => simp [intOf]; omega
    · obtain rfl : n = k := by omega
      have HE := Lib.hid (sfL_all hk1 HLen.out)
      have HB := Lib.hid hbel
      clear hbel
      go_wp2_with fail
      go_ret
      exact ⟨ret_str (str_ext (by rw [HO.out, data_mk, HE.out])), HB.out⟩
theorem specSgt_any (A : Option Addr) (n cap : Nat) (zs : List (Int × Int)) (w : World) (h : PRow w A n zs) :
    Calls Tryz.prog 32 #[.slice A n cap] w fun e w' => e = .returned (.string (sgS zs)) ∧ Below w.heap.size w w' := by
  have HV := Lib.hid (l04Ok_any A n cap zs w h)
  cases hv : sgnB zs
  · rw [show sgS zs = ⟨#[]⟩ from if_neg (by rw [hv]; decide)]
    rw [hv] at HV
    go_enter Tryz.func32, Tryz.ntmps32
    go_wp2_with fail
    refine HV.out.mono ?_
    rintro e w' ⟨rfl, rfl⟩
    go_wp2_with fail
    go_ret
    exact ⟨rfl, Below.refl _ _⟩
  · rw [show sgS zs = ⟨(sgL zs).toArray⟩ from if_pos hv]
    rw [hv] at HV
    have HT := Lib.hid (l04Text_any A n cap zs w h hv)
    clear h hv
    go_enter Tryz.func32, Tryz.ntmps32
    go_wp2_with fail
    refine HV.out.mono ?_
    rintro e w' ⟨rfl, rfl⟩
    go_wp2_with fail
    refine HT.out.mono ?_
    rintro e w1 ⟨rfl, hb⟩
    have HB := Lib.hid hb
    clear hb
    go_wp2_with fail
    go_ret
    exact ⟨rfl, HB.out⟩
set_option maxRecDepth 100000 in
set_option maxHeartbeats 3200000 in
theorem implSgt_any (A : Option Addr) (n cap : Nat) (zs : List (Int × Int)) (w : World) (h : PRow w A n zs) (hcap : n ≤ cap) (hd : Dr w) :
    Calls Tryz.prog 25 #[.slice A n cap] w fun e w' => e = .returned (.string (sgS zs)) ∧ Below w.heap.size w w' := by
  have HV := Lib.hid (validSigned_any A n cap zs w h hcap)
  cases hv : sgnB zs
  · rw [show sgS zs = ⟨#[]⟩ from if_neg (by rw [hv]; decide)]
    rw [hv] at HV
    go_enter Tryz.func25, Tryz.ntmps25
    go_wp2_with fail
    refine HV.out.mono ?_
    rintro e w1 ⟨rfl, hb⟩
    have HB := Lib.hid hb
    clear hb
    go_wp2_with fail
    go_ret
    exact ⟨rfl, HB.out⟩
  · rw [show sgS zs = ⟨(sgL zs).toArray⟩ from if_pos hv]
    rw [hv] at HV
    obtain ⟨h1, hn, hsg⟩ := sgn_in hv
    rw [h.len] at h1 hn
    obtain ⟨bb, oo, s, z, rfl, hz, _, _, z1, z2, _, hc⟩ := h.at_ (k := 0) (by omega)
    simp only [Nat.zero_mul, Nat.add_zero] at hc
    have hhd : (zs.headD (0, 0)).2 = z := by cases zs with | nil => cases hz | cons a r => simp at hz; simp [hz]
    have hs1 : (decS z).size ≤ 21 := decS_size z1 z2
    have HW := Lib.hid h
    have HH := Lib.hid hhd
    have HLen := Lib.hid h.len
    have HS := Lib.hid hsg
    have HD := Lib.hid hd
    have hbl := World.block_lt_of_cell? w _ hc
    have HC := Lib.hid hc
    clear h hz hhd hsg hv hd hc
    go_enter Tryz.func25, Tryz.ntmps25
    go_wp2_with fail
    refine HV.out.mono ?_
    rintro e w1 ⟨rfl, hb⟩
    have hc1 : w1.cell? ⟨bb, oo + 1, none⟩ = some (.int .i64 z) := (hb.cell (p := ⟨bb, oo + 1, none⟩) hbl).trans HC.out
    have HB1 := Lib.hid hb
    clear hb
    go_wp2_with fail
    refine (decimal_any z w1 z1 z2 (HD.out.below HB1.out)).mono ?_
    rintro e w2 ⟨rfl, hb⟩
    have HB2 := Lib.hid (HB1.out.trans (hb.mono HB1.out.size))
    clear hb hc1
    by_cases hc1 : cap = 1
    · obtain rfl : n = 1 := by omega
      subst hc1
      have HE := Lib.hid (sfL_all (Nat.le_refl 1) HLen.out)
      have HP := Lib.hid (sfL_one zs)
      go_wp2_with fail
      go_loopw [3, 18] (fun a i wr => a = .string (decS z) ∧ i = .int .i64 0 ∧ Below w.heap.size w wr) (fun _ _ _ => 0)
      case atStart => exact ⟨rfl, rfl, HB2.out⟩
      case round =>
        obtain ⟨rfl, rfl, hbel⟩ := hrel
        have HB := Lib.hid hbel
        clear hbel
        go_wp2_with fail
        go_ret
        exact ⟨ret_str (str_ext (by rw [decS_data, data_mk, HE.out, HP.out, HH.out])), HB.out⟩
    · have HWt := Lib.hid (HW.out.tail h1)
      go_wp2_with fail
      go_loopw [3, 18] (fun a i wr => ∃ (k : Nat) (o : ByteArray), k ≤ n - 1 ∧ i = .int .i64 k ∧ a = .string o ∧ o.size ≤ 30 * (k + 1) ∧ Hid (o.data.toList = sfL zs (k + 1)) ∧ Below w.heap.size w wr) (fun _ i _ => n - 1 - (intOf i).toNat)
      case atStart => exact ⟨0, _, Nat.zero_le _, rfl, rfl, by omega, by show _ = _; rw [decS_data, sfL_one, HH.out], HB2.out⟩
      case round =>
        obtain ⟨k, o, hkn, rfl, rfl, ho, HO, hbel⟩ := hrel
        by_cases hlt : k < n - 1
        · obtain ⟨b', o', x, y, e, hy, _, _, y1, y2, hcx, hcy⟩ := (HWt.out.below hbel).at_ hlt
          injection e with e
          injection e with e1 e2
          subst e1 e2
          rw [List.getElem?_tail] at hy
          have hs2 : (decS y).size ≤ 21 := decS_size y1 y2
          have HP := Lib.hid (sfL_step (show 1 ≤ k + 1 by omega) hy)
          have hx := (HS.out _ (List.mem_of_getElem? hy)).1
          simp only at hx
          have HB := Lib.hid hbel
          have hk60 : k ≤ 60 := by omega
          clear hy hbel
          rcases hx with hx | hx
          · have HX := Lib.hid (show mkS x = [32, 43] by unfold mkS; first | rw [if_pos (by omega)] | rw [if_neg (by omega)])
            subst hx
            go_wp2_with fail
            refine (decimal_any y _ y1 y2 ((HD.out.below HB.out).below ((Below.refl _ _).alloc (Nat.le_refl _) _))).mono ?_
            rintro e w3 ⟨rfl, hb3⟩
            have HB3 := Lib.hid ((HB.out.alloc HB.out.size _).trans (hb3.mono (by have := HB.out.size; simp; omega)))
            clear hb3 hcy hcx
            go_wp2_with fail
            go_roundw
            case rel => exact ⟨k + 1, _, by omega, by go_num, rfl, by rw [size_app, size_app]; have : (⟨#[32, 43]⟩ : ByteArray).size = 2 := rfl; omega, by show _ = _; rw [data_app, data_app, decS_data, HO.out, HP.out, HX.out], HB3.out⟩
            case measure => simp [intOf]; omega
          · have HX := Lib.hid (show mkS x = [32, 45] by unfold mkS; first | rw [if_pos (by omega)] | rw [if_neg (by omega)])
            subst hx
            go_wp2_with fail
            refine (decimal_any y _ y1 y2 ((HD.out.below HB.out).below ((Below.refl _ _).alloc (Nat.le_refl _) _))).mono ?_
            rintro e w3 ⟨rfl, hb3⟩
            have HB3 := Lib.hid ((HB.out.alloc HB.out.size _).trans (hb3.mono (by have := HB.out.size; simp; omega)))
            clear hb3 hcy hcx
            go_wp2_with fail
            go_roundw
            case rel => exact ⟨k + 1, _, by omega, by go_num, rfl, by rw [size_app, size_app]; have : (⟨#[32, 45]⟩ : ByteArray).size = 2 := rfl; omega, by show _ = _; rw [data_app, data_app, decS_data, HO.out, HP.out, HX.out], HB3.out⟩
            case measure => simp [intOf]; omega
        · have hkn2 : n = k + 1 := by omega
          have HE := Lib.hid (sfL_all (zs := zs) (show 1 ≤ k + 1 by omega) (by rw [HLen.out]; exact hkn2))
          have HB := Lib.hid hbel
          clear hbel hkn2
          go_wp2_with fail
          go_ret
          exact ⟨ret_str (str_ext (by rw [HO.out, data_mk, HE.out])), HB.out⟩
end Go.Proofs.YtlpglibnjmjjkaaGreatDoor
namespace Go.Proofs.YtlpglibnjmjjkaaGreatDoor
open Go.RowKit
set_option linter.unusedVariables false
set_option linter.unusedSimpArgs false
attribute [local go_sem ↓] Go.wp_at_zero Go.wp_at_succ

def kindName (a : Int) : ByteArray :=
  if a = 1 then ⟨#[110, 101, 97, 114, 101, 115, 116]⟩ else if a = 2 then ⟨#[101, 118, 101, 110]⟩ else if a = 3 then ⟨#[111, 100, 100]⟩ else if a = 4 then ⟨#[110, 101, 103, 97, 116, 105, 118, 101]⟩ else ⟨#[]⟩
theorem impl_kindName (a : Int) (w : World) : Calls Tryz.prog 34 #[.int .i64 a] w fun e w' => e = .returned (.string (kindName a)) ∧ Below w.heap.size w w' := by
  by_cases ho : a < 1 ∨ 4 < a
  · have hc : kindName a = ⟨#[]⟩ := by unfold kindName; repeat (rw [if_neg (by omega)])
    have hi : inB a 1 4 = false := inB_f ho
    rw [hc]; clear hc ho
    go_enter Tryz.func34, Tryz.ntmps34
    go_wp2_with (first | (go_at_call 58; refine (isKind_any _ _).mono ?_; rintro e w1 ⟨rfl, rfl⟩))
    go_ret
    exact ⟨rfl, by go_grown⟩
  · rcases (by omega : a = 1 ∨ a = 2 ∨ a = 3 ∨ a = 4) with rfl | rfl | rfl | rfl
    all_goals
      clear ho
      go_enter Tryz.func34, Tryz.ntmps34
      go_wp2
      go_ret
      exact ⟨rfl, by go_grown⟩
theorem spec_kindName (a : Int) (w : World) : Calls Tryz.prog 35 #[.int .i64 a] w fun e w' => e = .returned (.string (kindName a)) ∧ Below w.heap.size w w' := by
  by_cases ho : a < 1 ∨ 4 < a
  · have hc : kindName a = ⟨#[]⟩ := by unfold kindName; repeat (rw [if_neg (by omega)])
    have hi : inB a 1 4 = false := inB_f ho
    rw [hc]; clear hc ho
    go_enter Tryz.func35, Tryz.ntmps35
    go_wp2_with (first | (go_at_call 66; refine (l04Kind_any _ _).mono ?_; rintro e w1 ⟨rfl, rfl⟩))
    go_ret
    exact ⟨rfl, by go_grown⟩
  · rcases (by omega : a = 1 ∨ a = 2 ∨ a = 3 ∨ a = 4) with rfl | rfl | rfl | rfl
    all_goals
      clear ho
      go_enter Tryz.func35, Tryz.ntmps35
      go_wp2
      go_ret
      exact ⟨rfl, by go_grown⟩
theorem s2_set {W : World} {b1 b : Nat} {x y : Value} (h : W.cell? ⟨b1, 0, none⟩ = some x ∧ W.cell? ⟨b1, 1, none⟩ = some y) (h1 : b < b1) (s t : Value) :
    ((W.setCell ⟨b, 0, none⟩ s).setCell ⟨b, 1, none⟩ t).cell? ⟨b1, 0, none⟩ = some x ∧ ((W.setCell ⟨b, 0, none⟩ s).setCell ⟨b, 1, none⟩ t).cell? ⟨b1, 1, none⟩ = some y := by
  have e : ∀ j k, (⟨b, j, none⟩ : Addr) ≠ ⟨b1, k, none⟩ := fun j k e => by injection e with e; omega
  exact ⟨setO (e _ _) (setO (e _ _) h.1), setO (e _ _) (setO (e _ _) h.2)⟩
set_option maxRecDepth 100000 in
set_option maxHeartbeats 1600000 in
theorem drawExp_any (A : Option Addr) (n cap : Nat) (xs : List Int) (w : World) (hx : BRow w A n xs) :
    Calls Tryz.prog 18 #[.slice A n cap] w fun e w' => (∃ x y kd : Int, e = .returned (.tuple #[.agg #[.int .i64 x, .int .i64 y], .int .i64 kd]) ∧ Rng x ∧ Rng y) ∧ Below w.heap.size w w' := by
  obtain ⟨w0, hw0⟩ : ∃ w0, w0 = w.alloc (.cells #[.int .i64 0, .int .i64 0] 25) := ⟨_, rfl⟩
  have hB0 : Below w.heap.size w w0 := by rw [hw0]; exact (Below.refl _ _).alloc (Nat.le_refl _) _
  have hS0 : w0.heap.size = w.heap.size + 1 := by rw [hw0]; simp
  have hP0 : Pr w0 w.heap.size 0 0 := by rw [hw0]; exact Pr.new w 0 0 _
  have HX := Lib.hid (hx.below hB0)
  have Z0 := Lib.hid hP0
  have HB0 := Lib.hid hB0
  have HW := Lib.hid hw0.symm
  have HS := Lib.hid hS0
  clear hx hw0 hP0 hB0 hS0
  go_enter Tryz.func18, Tryz.ntmps18
  go_wp2_with fail
  rw [HW.out]
  refine (l00From_any A n cap w0).mono ?_
  rintro e w1 ⟨rfl, hs1⟩
  have hg1 := hs1.lt
  have H1 := Lib.hid hs1
  have Z1 := Lib.hid (Z0.out.below hs1.2)
  clear hs1 Z0
  go_wp2_with fail
  refine (l02Bent_any w0.heap.size A n cap 0 xs w0 w1 H1.out HX.out (by omega) (Nat.le_refl _)).mono ?_
  rintro e w2 ⟨⟨x, y, rfl, hx, hy⟩, hs2, hk2⟩
  have hg2 := hs2.lt
  have H2 := Lib.hid (hs2.alloc (.cells #[.int .i64 x, .int .i64 y] 25))
  have Z2 := Lib.hid ((Z1.out.kg hk2 (by have := HS.out; omega)).alloc (.cells #[.int .i64 x, .int .i64 y] 25))
  have Q2 := Lib.hid (Pr.new w2 x y 25)
  have HXY := Lib.hid (show Rng x ∧ Rng y from ⟨hx, hy⟩)
  have hws : w.heap.size < w2.heap.size := by have := HS.out; omega
  clear hs2 hk2 H1 Z1 hx hy
  go_wp2_with fail
  have hl4 : w2.heap.size < (w2.alloc (.cells #[.int .i64 x, .int .i64 y] 25)).heap.size := by simp
  generalize w2.alloc (.cells #[.int .i64 x, .int .i64 y] 25) = wq at *
  replace Z2 := Lib.hid Z2.out.drew
  replace Q2 := Lib.hid Q2.out.drew
  replace H2 := Lib.hid H2.out.drew
  have R2 := Lib.hid (show wq.cell? ⟨w2.heap.size, 0, none⟩ = some (.int .i64 x) ∧ wq.cell? ⟨w2.heap.size, 1, none⟩ = some (.int .i64 y) from ⟨Q2.out.1, Q2.out.2.1⟩)
  go_region_held3 (fun w' => w'.cell? ⟨w2.heap.size, 0, none⟩ = some (.int .i64 x) ∧ w'.cell? ⟨w2.heap.size, 1, none⟩ = some (.int .i64 y))
    (first | exact s2_set (by assumption) (by omega) _ _ | exact ⟨Q4.out.1, Q4.out.2.1⟩ | exact ⟨Q2.out.1, Q2.out.2.1⟩ | exact R2.out)
    (first | (go_at_call 57; refine (l04DrawKind_any w0.heap.size A n cap 20 xs w0 _ H2.out HX.out (by omega) (Nat.le_refl _)).mono ?_; rintro e w4 ⟨⟨kd, rfl, _⟩, hs4, hk4⟩; have HB4 := Lib.hid hs4.2; have Q4 := Lib.hid (Q2.out.kg hk4 (by omega)); obtain ⟨a0, a1, g0, g1⟩ := Z2.out.kg hk4 (by have := HS.out; omega); clear hs4 hk4))
  have hT := pair_set a0 a1 (.int .i64 x) (.int .i64 y)
  have hBf : Below w.heap.size w ((w4.setCell ⟨w.heap.size, 0, none⟩ (.int .i64 x)).setCell ⟨w.heap.size, 1, none⟩ (.int .i64 y)) := ((HB0.out.trans (HB4.out.mono (by have := HS.out; omega))).setCell (p := ⟨w.heap.size, 0, none⟩) (Nat.le_refl _) _).setCell (p := ⟨w.heap.size, 1, none⟩) (Nat.le_refl _) _
  obtain ⟨_, t0, t1⟩ := hT
  generalize (w4.setCell ⟨w.heap.size, 0, none⟩ (.int .i64 x)).setCell ⟨w.heap.size, 1, none⟩ (.int .i64 y) = wf at t0 t1 hBf ⊢
  clear a0 a1 g0 g1
  go_wp2_with fail
  exact bodyPost_ret (v := .tuple #[.agg #[.int .i64 x, .int .i64 y], .int .i64 kd]) (by simp [results, Tryz.results18, go_sem, t0, t1]) rfl ⟨⟨x, y, kd, rfl, HXY.out.1, HXY.out.2⟩, hBf⟩
set_option maxHeartbeats 800000 in
theorem drawKnd_any (A : Option Addr) (n cap : Nat) (xs : List Int) (w : World) (hx : BRow w A n xs) :
    Calls Tryz.prog 21 #[.slice A n cap] w fun e w' => (∃ (zs : List (Int × Int)) (B : Option Addr) (m c : Nat) (kd : Int), e = .returned (.tuple #[.slice B m c, .int .i64 kd]) ∧ PRow w' B m zs ∧ m ≤ c ∧ m ≤ 61) ∧ Below w.heap.size w w' := by
  have HX := Lib.hid hx
  clear hx
  go_enter Tryz.func21, Tryz.ntmps21
  go_wp2_with fail
  refine (l00From_any A n cap w).mono ?_
  rintro e w1 ⟨rfl, hs1⟩
  have hg1 := hs1.lt
  have H1 := Lib.hid hs1
  clear hs1
  go_wp2_with fail
  refine (l04Bent_any w.heap.size A n cap 0 xs w w1 H1.out HX.out (by omega) (Nat.le_refl _)).mono ?_
  rintro e w2 ⟨⟨zs, B, c, rfl, ho, hr, hl⟩, hs2, _⟩
  have HO := Lib.hid ho
  have HR := Lib.hid hr
  have H2 := Lib.hid hs2
  clear ho hr hs2 H1
  go_wp2_with fail
  refine (l04DrawKind_any w.heap.size A n cap 70 xs w w2 H2.out HX.out (by omega) (Nat.le_refl _)).mono ?_
  rintro e w3 ⟨⟨kd, rfl, _⟩, hs3, hk3⟩
  have ho := own_kg HO.out hk3 hg1
  have HP := Lib.hid (PRow.of_own ho (by omega) HR.out)
  have HC := Lib.hid (own_cap ho)
  have HB := Lib.hid hs3.2
  clear ho hs3 hk3
  go_wp2_with fail
  go_ret2
  exact ⟨⟨zs, B, zs.length, c, kd, rfl, HP.out, HC.out, hl⟩, HB.out⟩
theorem drawName_any (A : Option Addr) (n cap : Nat) (xs : List Int) (w : World) (hx : BRow w A n xs) :
    Calls Tryz.prog 30 #[.slice A n cap] w fun e w' => (∃ z : Int, e = .returned (.int .i64 z)) ∧ Below w.heap.size w w' := by
  have HX := Lib.hid hx
  clear hx
  go_enter Tryz.func30, Tryz.ntmps30
  go_wp2_with fail
  refine (l00From_any A n cap w).mono ?_
  rintro e w1 ⟨rfl, hs1⟩
  have H1 := Lib.hid hs1
  clear hs1
  go_wp2_with fail
  refine (pick_any w.heap.size A n cap 0 xs 7 w w1 H1.out HX.out (by omega) (Nat.le_refl _) (by omega) (by omega)).mono ?_
  rintro e w2 ⟨⟨r, rfl, r0, r1⟩, hs2, _⟩
  have HB := Lib.hid hs2.2
  clear hs2
  go_wp2_with fail
  go_ret
  exact ⟨⟨_, rfl⟩, HB.out⟩
end Go.Proofs.YtlpglibnjmjjkaaGreatDoor
namespace Go.Proofs.YtlpglibnjmjjkaaGreatDoor
open Go.RowKit
set_option linter.unusedVariables false
set_option linter.unusedSimpArgs false
attribute [local go_sem ↓] Go.wp_at_zero Go.wp_at_succ

theorem PRow.kg {g : Nat} {w w' : World} {B : Option Addr} {m : Nat} {zs : List (Int × Int)} (h : PRow w B m zs) (hk : Kg g w w') (hB : ∀ ad, B = some ad → ad.block ≠ g) : PRow w' B m zs :=
  ⟨h.1, h.2.1, h.2.2.1, h.2.2.2.keep fun p u hu ⟨ad, e, hp⟩ => (hk.cell (World.block_lt_of_cell? w p hu) (by rw [hp]; exact hB ad e)).trans hu⟩
theorem prs_drop (zs : List (Int × Int)) : (prs zs).drop 2 = prs (zs.drop 1) := by
  cases zs with
  | nil => rfl
  | cons z r => rfl
theorem PRow.tail1 {w : World} {g n : Nat} {zs : List (Int × Int)} (h : PRow w (some ⟨g, 0, none⟩) n zs) : PRow w (some ⟨g, 2, none⟩) (n - 1) (zs.drop 1) := by
  obtain ⟨h1, h2, h3, h4⟩ := h
  refine ⟨by rw [List.length_drop, h1], by omega, fun z hz => h3 z (List.mem_of_mem_drop hz), ?_⟩
  have := h4.drop_ 2
  rw [prs_drop] at this
  simpa [addr_zero] using this
theorem stL_len : ∀ (r : List (Int × Int)), (∀ z ∈ r, Rng z.2) → (stL r).length ≤ 23 * r.length
  | [], _ => Nat.le_refl _
  | z :: r, h => by
    have h1 := Lib.itoa_length_le z.2 (h z (by simp)).1 (h z (by simp)).2
    have h2 := stL_len r (fun y hy => h y (by simp [hy]))
    have h3 : (mkS z.1).length = 2 := by unfold mkS; split <;> rfl
    show (mkS z.1 ++ Lib.itoa z.2 ++ stL r).length ≤ _
    rw [List.length_append, List.length_append, List.length_cons]
    omega
theorem sgL_len : ∀ (r : List (Int × Int)), (∀ z ∈ r, Rng z.2) → (sgL r).length ≤ 23 * r.length
  | [], _ => Nat.le_refl _
  | z :: r, h => by
    have h1 := Lib.itoa_length_le z.2 (h z (by simp)).1 (h z (by simp)).2
    have h2 := stL_len r (fun y hy => h y (by simp [hy]))
    show (Lib.itoa z.2 ++ stL r).length ≤ _
    rw [List.length_append, List.length_cons]
    omega
set_option maxRecDepth 100000 in
set_option maxHeartbeats 3200000 in
theorem drawSame_any (A : Option Addr) (n cap : Nat) (xs : List Int) (w : World) (hx : BRow w A n xs) :
    Calls Tryz.prog 29 #[.slice A n cap] w fun e w' => (∃ (zs ys : List (Int × Int)) (B C : Option Addr) (m c m' c' : Nat), e = .returned (.tuple #[.slice B m c, .slice C m' c']) ∧ PRow w' B m zs ∧ PRow w' C m' ys) ∧ Below w.heap.size w w' := by
  obtain ⟨i0, hi, hz0, hz1, hz2⟩ := info_parts infoS
  have HX := Lib.hid hx
  clear hx
  go_enter Tryz.func29, Tryz.ntmps29
  go_wp2_with fail
  refine (l00From_any A n cap w).mono ?_
  rintro e w1 ⟨rfl, hs1⟩
  have hg1 := hs1.lt
  have H1 := Lib.hid hs1
  clear hs1
  go_wp2_with fail
  refine (l04Draw_any w.heap.size A n cap 0 xs w w1 H1.out HX.out (by omega) (Nat.le_refl _)).mono ?_
  rintro e w2 ⟨⟨zs, B, c, rfl, ho, hsg⟩, hs2, _⟩
  obtain ⟨n1, n2, hr⟩ := sgn_len hsg
  obtain ⟨z, r0, hzs⟩ : ∃ z r, zs = z :: r := by
    match zs, n1 with
    | z :: r, _ => exact ⟨z, r, rfl⟩
  have hzr := (sgn_in hsg).2.2 z (by rw [hzs]; simp)
  have hz0' : zs[0]? = some z := by rw [hzs]; rfl
  obtain ⟨N, hN⟩ : ∃ N, zs.length = N := ⟨_, rfl⟩
  rw [hN] at ho n1 n2 ⊢
  obtain ⟨ga, rfl, ga1, ga2⟩ := own_some ho (by omega)
  have hcap := own_cap ho
  have hga : ga ≠ w.heap.size := by omega
  have HN := Lib.hid hN
  have HR := Lib.hid hr
  have HZ := Lib.hid hz0'
  have HP := Lib.hid (PRow.of_own ho (by omega) hr)
  have HPA := Lib.hid ((PRow.of_own ho (by omega) hr).alloc (.cells #[] 86))
  have H2 := Lib.hid (hs2.alloc (.cells #[] 86))
  have hg2 : w.heap.size < w2.heap.size := hs2.lt
  have hown0 : (w2.alloc (.cells #[] 86)).ownsRow w2.heap.size 86 2 (.slice (some ⟨w2.heap.size, 0, none⟩) 0 0) 0 [] := World.ownsRow_made w2 #[] 0 (Nat.le_refl _) (by decide) rfl
  have HO := Lib.hid hown0
  clear hs2 ho hsg hr hN hz0' hzs hown0 H1
  go_wp2_with (first | (at_builtin; refine wpList_append_lies _ rfl (.tmp 11) (.tmp 12) 46 rfl w2.heap.size 86 i0 (.agg #[.int .i64 0, .int .i64 0]) 2 16 Tryz.underlying46 hi hz0 hz1 hz2 rfl (by decide) _ 0 [] (by rfl) HO.out ⟨ga, 0, none⟩ N c (prs zs) (by rfl) ?len ?cells ?one (by omega) (by show 0 + N ≤ 9223372036854775807; omega) (by omega) (by simp) (w2.heap.size + 1) (by simp) ?_; rotate_left; rotate_left; rotate_left; intro g cap1 w3 hown1 hgrow hat hlt1))
  case len => rw [prs_length, HN.out]
  case cells =>
    intro j u hu
    obtain ⟨ad', e, hc⟩ := HPA.out.2.2.2 j u hu
    injection e with e
    subst e
    exact hc
  case one => exact prs_one zs
  simp only [Nat.zero_add, List.nil_append] at hown1
  have H3 := Lib.hid (H2.out.grown hgrow (by simp [Value.ownBlock]; omega) (fun k hk => by simp [Value.ownBlock] at hk; omega))
  have P3 := Lib.hid (HPA.out.grown hgrow (fun ad e => by injection e with e; subst e; simp [Value.ownBlock]; omega))
  have O3 := Lib.hid hown1
  obtain ⟨g', hg', gb1, gb2⟩ := own_some hown1 (by omega)
  injection hg' with hg'
  injection hg' with hg'
  subst hg'
  have hcap1 := own_cap hown1
  clear hown1 hgrow hat HO HPA H2 HP
  refine (pick_any w.heap.size A n cap 60 xs 4 w _ H3.out HX.out (by omega) (Nat.le_refl _) (by omega) (by omega)).mono ?_
  rintro e w4 ⟨⟨r, rfl, r1, r2⟩, hs4, hk4⟩
  have P4 := Lib.hid (P3.out.kg hk4 (fun ad e => by injection e with e; subst e; exact hga))
  have O4 := Lib.hid (own_kg O3.out hk4 hg2)
  have HB := Lib.hid hs4.2
  clear hs4 hk4 H3 P3 O3
  rcases (by omega : r = 0 ∨ r = 1 ∨ (r ≠ 0 ∧ r ≠ 1)) with rfl | rfl | ⟨e0, e1⟩
  · have hc : w4.cell? ⟨g, 1, none⟩ = some (.int .i64 z.2) := by rw [O4.out.cellAt 1 (by omega)]; exact prs_get2 zs 0 z HZ.out
    have hf := O4.out.frozenAt 1
    have hst := (O4.out.stored 1 (.int .i64 (z.2 + 1))).1
    rw [prs_set2 zs 0 z _ HZ.out] at hst
    have hQ := PRow.of_own hst (by omega) (rng_set HR.out (by unfold Rng; omega))
    have HQ := Lib.hid hQ
    have P5 := Lib.hid (P4.out.set_ (p := ⟨g, 1, none⟩) (.int .i64 (z.2 + 1)) (fun ad e => by injection e with e; subst e; simp; omega))
    have hb0 : (0 : Int) < (N : Int) := by omega
    have zr1 : -1000000000 ≤ z.2 := hzr.2.1
    have zr2 : z.2 ≤ 1000000000 := hzr.2.2
    clear hst hQ
    go_wp2_with fail
    go_ret2
    exact ⟨⟨zs, zs.set 0 (z.1, z.2 + 1), _, _, _, _, _, _, rfl, P5.out, HQ.out⟩, HB.out.setCell (p := ⟨g, 1, none⟩) (by simp; omega) _⟩
  · have hQ := PRow.tail1 (PRow.of_own O4.out (by omega) HR.out)
    have HQ := Lib.hid hQ
    have hb0 : (1 : Int) ≤ (N : Int) := by omega
    clear hQ
    by_cases hc1 : cap1 = 1
    · have hN1 : N - 1 = 0 := by omega
      have HQ0 : Hid (PRow w4 (some ⟨g, 0, none⟩) 0 []) := ⟨rfl, by omega, (fun z hz => by cases hz), Rd.nil⟩
      go_wp2_with fail
      go_ret2
      exact ⟨⟨zs, [], _, _, _, _, _, _, rfl, P4.out, HQ0.out⟩, HB.out⟩
    · go_wp2_with fail
      go_ret2
      exact ⟨⟨zs, zs.drop 1, _, _, _, _, _, _, rfl, P4.out, HQ.out⟩, HB.out⟩
  · have b0 : (r == 0) = false := beq_eq_false_iff_ne.2 e0
    have b1 : (r == 1) = false := beq_eq_false_iff_ne.2 e1
    have HQ := Lib.hid (PRow.of_own O4.out (by omega) HR.out)
    go_wp2_with fail
    go_ret2
    exact ⟨⟨zs, zs, _, _, _, _, _, _, rfl, P4.out, HQ.out⟩, HB.out⟩
theorem text_any (g : Nat) (A : Option Addr) (n cap K : Nat) (xs : List Int) (B : Option Addr) (m c : Nat) (ts : List ByteArray) (w0 w : World) (h : St g A n cap K w0 w) (hx : BRow w0 A n xs) (hk : K ≤ 900) (hg : w0.heap.size ≤ g) (h1 : 1 ≤ m) (h2 : m ≤ 100)
    (hr : TRow w B m ts) (hB : ∀ ad, B = some ad → ad.block ≠ g) :
    Calls Tryz.prog 109 #[.pointer (some ⟨g, 0, none⟩), .slice B m c] w fun e w' => (∃ z : ByteArray, e = .returned (.string z) ∧ z ∈ ts) ∧ St g A n cap (K + 2) w0 w' ∧ Kg g w w' := by
  have HP := Lib.hid (pick_any g A n cap K xs m w0 w h hx hk hg (by omega) (by omega))
  have HR := Lib.hid hr
  have HB := Lib.hid hB
  clear h hx hr hB
  go_enter Tryz.func109, Tryz.ntmps109
  go_wp2_with fail
  refine HP.out.mono ?_
  rintro e w1 ⟨⟨r, rfl, r0, r1⟩, hs1, hk1⟩
  obtain ⟨q, rfl⟩ := Int.eq_ofNat_of_zero_le r0
  have hrow : TRow w1 B m ts := ⟨HR.out.1, HR.out.2.1, HR.out.2.2.keep fun p u hu ⟨ad, e, hp⟩ => (hk1.cell (World.block_lt_of_cell? w p hu) (by rw [hp]; exact HB.out ad e)).trans hu⟩
  obtain ⟨ad, z, rfl, hz, hc⟩ := hrow.at_ (k := q) (by omega)
  have HZ := Lib.hid (List.mem_of_getElem? hz)
  have H1 := Lib.hid hs1
  have K1 := Lib.hid hk1
  clear hs1 hk1 hz hrow
  go_wp2_with fail
  go_ret
  exact ⟨⟨z, rfl, HZ.out⟩, H1.out, K1.out⟩
theorem trow_new (w : World) (ts : List ByteArray) (cs : Array Value) (t : TypeId) (n : Nat) (hn : ts.length = n) (hc : cs.toList = ts.map Value.string) (hb : n ≤ 1048577) : TRow (w.alloc (.cells cs t)) (some ⟨w.heap.size, 0, none⟩) n ts :=
  ⟨hn, hb, fun j u hu => ⟨_, rfl, newcell rfl (by rw [hc]; exact hu)⟩⟩
theorem spoil_size : ∀ z ∈ ([⟨#[32]⟩, ⟨#[48]⟩, ⟨#[45]⟩, ⟨#[120]⟩, ⟨#[49]⟩, ⟨#[57]⟩, ⟨#[46]⟩] : List ByteArray), z.size = 1 := fun z hz => by
  simp only [List.mem_cons, List.not_mem_nil, or_false] at hz
  rcases hz with rfl | rfl | rfl | rfl | rfl | rfl | rfl <;> rfl
theorem tl_ne {t : ByteArray} (h : t ≠ ⟨#[]⟩) : t.toList.isEmpty = false := by
  rw [ByteArray.toList_eq]
  cases hl : t.data.toList with
  | nil => exact absurd (str_ext (by rw [hl])) h
  | cons a r => rfl
theorem TRow.drewb {w : World} {A : Option Addr} {n : Nat} {ts : List ByteArray} (h : TRow w A n ts) : TRow w.drew A n ts := h
set_option maxRecDepth 100000 in
set_option maxHeartbeats 3200000 in
theorem l01Spoil_any (g : Nat) (A : Option Addr) (n cap K : Nat) (xs : List Int) (t : ByteArray) (w0 w : World) (h : St g A n cap K w0 w) (hx : BRow w0 A n xs) (hk : K ≤ 600) (hg : w0.heap.size ≤ g) (ht : t.size ≤ 2000) :
    Calls Tryz.prog 73 #[.pointer (some ⟨g, 0, none⟩), .string t] w fun e w' => (∃ r : ByteArray, e = .returned (.string r) ∧ r.size ≤ 4001) ∧ Below w0.heap.size w0 w' := by
  have HX := Lib.hid hx
  have H := Lib.hid h
  have hgl := h.lt
  clear hx h
  go_enter Tryz.func73, Tryz.ntmps73
  go_wp2_with fail
  refine (pick_any g A n cap K xs 5 w0 w H.out HX.out (by omega) hg (by omega) (by omega)).mono ?_
  rintro e w1 ⟨⟨r, rfl, r0, r1⟩, hs1, hk1⟩
  have H1 := Lib.hid hs1
  have hg1 := hs1.lt
  have HB1 := Lib.hid hs1.2
  clear hs1 hk1 H
  rcases (by omega : r = 0 ∨ r = 1 ∨ (r ≠ 0 ∧ r ≠ 1)) with rfl | rfl | ⟨e0, e1⟩
  · go_wp2_with fail
    refine (pick_any g A n cap (K + 2) xs ((t.size : Int) + 1) w0 w1 H1.out HX.out (by omega) hg (by omega) (by omega)).mono ?_
    rintro e w2 ⟨⟨q, rfl, q0, q1⟩, hs2, hk2⟩
    obtain ⟨j, rfl⟩ := Int.eq_ofNat_of_zero_le q0
    have hj : j ≤ t.size := by omega
    have hj0 : (0 : Int) ≤ (j : Int) := by omega
    have hj1 : (j : Int) ≤ (t.size : Int) := by omega
    have H2 := Lib.hid hs2
    have hg2 := hs2.lt
    clear hs2 hk2 H1
    go_wp2_with fail
    have ex1 : (t.extract 0 j).size ≤ 2000 := by rw [← len_size, ext_mid, List.drop_zero, List.length_take, len_size]; omega
    have ex2 : (t.extract j t.size).size ≤ 2000 := by rw [← len_size, ext_mid, List.length_drop, List.length_take, len_size]; omega
    go_region_held3 (fun _ => True) (trivial)
      (first | (go_at_call 109; refine (text_any g A n cap (K + 4) xs (some ⟨w2.heap.size, 0, none⟩) 7 7 [⟨#[32]⟩, ⟨#[48]⟩, ⟨#[45]⟩, ⟨#[120]⟩, ⟨#[49]⟩, ⟨#[57]⟩, ⟨#[46]⟩] w0 _ (H2.out.drew.alloc _) HX.out (by omega) hg (by omega) (by omega) (trow_new w2.drew _ _ _ 7 rfl rfl (by omega)) (fun ad h => by injection h with h; subst h; simp; omega)).mono ?_; rintro e w3 ⟨⟨z, rfl, hz⟩, hs3, hk3⟩; have hzs := spoil_size z hz; have ad1 := fun W => run_string_add_sum (P := Tryz.prog) W (t.extract 0 j) z (by omega); have ad2 := fun W => run_string_add_sum (P := Tryz.prog) W (t.extract 0 j ++ z) (t.extract j t.size) (by rw [size_app]; omega); have HB3 := Lib.hid hs3.2; clear hs3 hk3))
    go_wp2_with fail
    go_ret
    exact ⟨⟨_, rfl, by rw [size_app, size_app]; omega⟩, HB3.out⟩
  · by_cases h0 : t = ⟨#[]⟩
    · have hb := tl_t h0
      have hie : t.toList.isEmpty = true := by rw [h0, ByteArray.toList_eq]; rfl
      go_wp2_with fail
      go_ret
      exact ⟨⟨_, rfl, by decide⟩, HB1.out⟩
    · have hb := tl_f h0
      have hie : t.toList.isEmpty = false := tl_ne h0
      have hsz : 1 ≤ t.size := by
        rcases Nat.eq_zero_or_pos t.size with h | h
        · exact absurd (str_ext (by rw [← len_size] at h; rw [List.eq_nil_of_length_eq_zero h])) h0
        · exact h
      go_wp2_with fail
      refine (pick_any g A n cap (K + 2) xs (t.size : Int) w0 w1 H1.out HX.out (by omega) hg (by omega) (by omega)).mono ?_
      rintro e w2 ⟨⟨q, rfl, q0, q1⟩, hs2, hk2⟩
      obtain ⟨j, rfl⟩ := Int.eq_ofNat_of_zero_le q0
      have hj : j < t.size := by omega
      have hj0 : (0 : Int) ≤ (j : Int) := by omega
      have hj1 : (j : Int) ≤ (t.size : Int) := by omega
      have kw : IntKind.i64.wrap ((j : Int) + 1) = ((j + 1 : Nat) : Int) := by rw [IntWalk.i64_in _ (by omega)]; omega
      have hj2 : (0 : Int) ≤ ((j + 1 : Nat) : Int) := by omega
      have hj3 : ((j + 1 : Nat) : Int) ≤ (t.size : Int) := by omega
      have ex1 : (t.extract 0 j).size ≤ 2000 := by rw [← len_size, ext_mid, List.drop_zero, List.length_take, len_size]; omega
      have ex2 : (t.extract (j + 1) t.size).size ≤ 2000 := by rw [← len_size, ext_mid, List.length_drop, List.length_take, len_size]; omega
      have ad1 := fun W => run_string_add_sum (P := Tryz.prog) W (t.extract 0 j) (t.extract (j + 1) t.size) (by omega)
      have HB2 := Lib.hid hs2.2
      clear hs2 hk2 H1
      go_wp2_with fail
      go_quiet (fail)
      go_wp2_with fail
      go_ret
      exact ⟨⟨_, rfl, by rw [size_app]; omega⟩, HB2.out.trans (below_drewN _ _ _)⟩
  · have b0 : (r == 0) = false := beq_eq_false_iff_ne.2 e0
    have b1 : (r == 1) = false := beq_eq_false_iff_ne.2 e1
    go_wp2_with fail
    go_ret
    exact ⟨⟨t, rfl, by omega⟩, HB1.out⟩
set_option maxHeartbeats 800000 in
theorem drawRead_any (A : Option Addr) (n cap : Nat) (xs : List Int) (w : World) (hx : BRow w A n xs) :
    Calls Tryz.prog 27 #[.slice A n cap] w fun e w' => (∃ r : ByteArray, e = .returned (.string r) ∧ r.size ≤ 4001) ∧ Below w.heap.size w w' := by
  have HX := Lib.hid hx
  clear hx
  go_enter Tryz.func27, Tryz.ntmps27
  go_wp2_with fail
  refine (l00From_any A n cap w).mono ?_
  rintro e w1 ⟨rfl, hs1⟩
  have H1 := Lib.hid hs1
  clear hs1
  go_wp2_with fail
  refine (l04Draw_any w.heap.size A n cap 0 xs w w1 H1.out HX.out (by omega) (Nat.le_refl _)).mono ?_
  rintro e w2 ⟨⟨zs, B, c, rfl, ho, hsg⟩, hs2, _⟩
  obtain ⟨n1, n2, hr⟩ := sgn_len hsg
  have HT := Lib.hid (l04Text_any B zs.length c zs w2 (PRow.of_own ho (by omega) hr) hsg)
  have hln : (⟨(sgL zs).toArray⟩ : ByteArray).size ≤ 2000 := by
    have := sgL_len zs (fun z hz => (hr z hz).2)
    rw [← len_size, data_mk]; omega
  generalize (⟨(sgL zs).toArray⟩ : ByteArray) = t at *
  have H2 := Lib.hid hs2
  clear ho hsg hs2 hr H1
  go_wp2_with fail
  refine HT.out.mono ?_
  rintro e w3 ⟨rfl, hb⟩
  have H3 := Lib.hid (H2.out.below hb)
  clear hb H2 HT
  go_wp2_with fail
  refine (one_any w.heap.size A n cap 60 xs 3 w w3 H3.out HX.out (by omega) (Nat.le_refl _) (by omega) (by omega)).mono ?_
  rintro e w4 ⟨⟨b, rfl⟩, hs4, _⟩
  have H4 := Lib.hid hs4
  have HB4 := Lib.hid hs4.2
  clear hs4 H3
  cases b
  · go_wp2_with fail
    go_ret
    exact ⟨⟨t, rfl, by omega⟩, HB4.out⟩
  · go_wp2_with fail
    refine (l01Spoil_any w.heap.size A n cap 62 xs t w w4 H4.out HX.out (by omega) (Nat.le_refl _) hln).mono ?_
    rintro e w5 ⟨⟨r, rfl, hrs⟩, hb5⟩
    have HB5 := Lib.hid hb5
    clear hb5
    go_wp2_with fail
    go_ret
    exact ⟨⟨r, rfl, hrs⟩, HB5.out⟩
end Go.Proofs.YtlpglibnjmjjkaaGreatDoor
namespace Go.Proofs.YtlpglibnjmjjkaaGreatDoor
open Go.RowKit
set_option linter.unusedVariables false
theorem long_any (A B : Option Addr) (n cap m cap' : Nat) (w : World) (hn : n ≤ 9223372036854775807) (hm : m ≤ 9223372036854775807) : Calls Tryz.prog 5 #[.slice A n cap, .slice B m cap'] w fun e w' => e = .returned (.bool (decide ((3000 : Int) < n) || decide ((3000 : Int) < m))) ∧ w = w' := by
  by_cases h : (3000 : Int) < n
  · rw [decide_eq_true h]
    go_enter Tryz.func5, Tryz.ntmps5
    go_wp2_with fail
    go_ret
    exact ⟨rfl, rfl⟩
  · rw [decide_eq_false h]
    have h' : decide ((3000 : Int) < n) = false := decide_eq_false h
    by_cases k : (3000 : Int) < m
    · rw [decide_eq_true k]
      go_enter Tryz.func5, Tryz.ntmps5
      go_wp2_with fail
      go_ret
      exact ⟨rfl, rfl⟩
    · rw [decide_eq_false k]
      have k' : decide ((3000 : Int) < m) = false := decide_eq_false k
      go_enter Tryz.func5, Tryz.ntmps5
      go_wp2_with fail
      go_ret
      exact ⟨rfl, rfl⟩
theorem f6big_any (A : Option Addr) (n cap : Nat) (w : World) (hn : n ≤ 9223372036854775807) : Calls Tryz.prog 17 #[.slice A n cap] w fun e w' => e = .returned (.bool (decide ((4096 : Int) < n))) ∧ w = w' := by
  by_cases h : (4096 : Int) < n
  · rw [decide_eq_true h]
    go_enter Tryz.func17, Tryz.ntmps17
    go_wp2_with fail
    go_ret
    exact ⟨rfl, rfl⟩
  · rw [decide_eq_false h]
    have h' : decide ((4096 : Int) < n) = false := decide_eq_false h
    go_enter Tryz.func17, Tryz.ntmps17
    go_wp2_with fail
    go_ret
    exact ⟨rfl, rfl⟩
end Go.Proofs.YtlpglibnjmjjkaaGreatDoor
namespace Go.Proofs.YtlpglibnjmjjkaaGreatDoor
open Go.ChangeShapes Go.WideShapes Go.ChangeAt Go.RowKit
set_option linter.unusedVariables false
theorem bounds_u8 {z : Int} (h : (Lit.int .u8 z).wf = true) : 0 ≤ z ∧ z ≤ 255 := by
  simp [Lit.wf, IntKind.min, IntKind.max, IntKind.signed, IntKind.bits] at h
  omega
section
variable {H : Type} {enc : TypeId × Value → H} {P : Program} {W : World}
/-- An argument []byte, opened. -/
theorem isBRow_of {t e : TypeId} {a : Option Addr} {len cap : Nat} {d : DataW H} {p : List MemPlace} (ht : P.underlying t = some (.slice e)) (he : P.underlying e = some (.int .u8)) (hc : P.cellsOf e = 1)
    (h : DataW.Trod enc P W 0 (fun _ => true) true t (.slice a len cap) d p) : ∃ zs, BRow W a len zs := by
  obtain ⟨fuel, hf⟩ := h
  rcases open_ints ht he hc hf with ⟨hcs, _⟩ | ⟨x, l, c, zs, hcs, _, hl, hm, hz, _, hcell, hwz⟩
  · simp [Value.cells] at hcs
    obtain ⟨rfl, rfl, rfl⟩ := hcs
    exact ⟨[], rfl, by omega, by simp, Rd.nil⟩
  · simp [Value.cells] at hcs
    obtain ⟨rfl, rfl, rfl⟩ := hcs
    simp only [if_true] at hz
    refine ⟨zs.take len, by rw [List.length_take]; omega, by unfold maxLen at hm; omega, fun z hz' => bounds_u8 (hwz z (List.mem_of_mem_take hz')), fun j u hu => ?_⟩
    rw [List.getElem?_map, List.getElem?_take] at hu
    split at hu
    · rename_i hj
      have hjl : j < zs.length := by omega
      have hh := hcell j hjl
      rw [List.getElem?_eq_getElem hjl] at hu
      simp at hu
      subst hu
      exact ⟨_, rfl, by simpa [hjl] using hh⟩
    · simp at hu
end
end Go.Proofs.YtlpglibnjmjjkaaGreatDoor
namespace Go.Proofs.YtlpglibnjmjjkaaGreatDoor
open Go.RowKit
set_option linter.unusedVariables false
attribute [local go_sem ↓] Go.wp_at_zero Go.wp_at_succ

/-- The convergents behind a state. -/
def cvgO : List Int → Int → Int → Int → Int → Option (List (Int × Int))
  | [], _, _, _, _ => some []
  | t :: r, p, q, p0, q0 => if vfB (t * p + p0) (t * q + q0) = true then (cvgO r (t * p + p0) (t * q + q0) p q).map ((t * p + p0, t * q + q0) :: ·) else none
def cvgL (zs : List Int) : List (Int × Int) := (cvgO zs 1 0 0 1).getD []
def cvgB (zs : List Int) : Bool := (cvgO zs 1 0 0 1).isSome
theorem cvgO_len : ∀ (zs : List Int) (p q p0 q0 : Int) (l : List (Int × Int)), cvgO zs p q p0 q0 = some l → l.length = zs.length ∧ ∀ z ∈ l, vfB z.1 z.2 = true
  | [], _, _, _, _, l, h => by simp [cvgO] at h; subst h; simp
  | t :: r, p, q, p0, q0, l, h => by
    rw [cvgO] at h
    split at h
    · rename_i hv
      cases hc : cvgO r (t * p + p0) (t * q + q0) p q with
      | none => rw [hc] at h; cases h
      | some m =>
        rw [hc] at h
        injection h with h
        subst h
        obtain ⟨h1, h2⟩ := cvgO_len r _ _ _ _ m hc
        refine ⟨by simp [h1], fun z hz => ?_⟩
        rw [List.mem_cons] at hz
        rcases hz with rfl | hz
        · exact hv
        · exact h2 z hz
    · cases h
theorem cvgL_rng (zs : List Int) : ∀ z ∈ cvgL zs, Rng z.1 ∧ Rng z.2 := by
  intro z hz
  unfold cvgL at hz
  cases hc : cvgO zs 1 0 0 1 with
  | none => rw [hc] at hz; cases hz
  | some l =>
    rw [hc] at hz
    have := vfB_iff.1 ((cvgO_len zs _ _ _ _ l hc).2 z hz)
    unfold Rng; omega
theorem cvgL_len (zs : List Int) : (cvgL zs).length ≤ zs.length := by
  unfold cvgL
  cases hc : cvgO zs 1 0 0 1 with
  | none => exact Nat.zero_le _
  | some l => exact Nat.le_of_eq (cvgO_len zs _ _ _ _ l hc).1
theorem cvg_none {zs : List Int} (h : cvgO zs 1 0 0 1 = none) : cvgL zs = [] ∧ cvgB zs = false := by unfold cvgL cvgB; rw [h]; exact ⟨rfl, rfl⟩
theorem cvg_some {zs : List Int} {l : List (Int × Int)} (h : cvgO zs 1 0 0 1 = some l) : cvgL zs = l ∧ cvgB zs = true := by unfold cvgL cvgB; rw [h]; exact ⟨rfl, rfl⟩
/-- So many of the convergents have been found. -/
def CvgAt (zs : List Int) (k : Nat) (p q p0 q0 : Int) (fs : List (Int × Int)) : Prop := cvgO zs 1 0 0 1 = (cvgO (zs.drop k) p q p0 q0).map (fs ++ ·)
theorem CvgAt.start (zs : List Int) : CvgAt zs 0 1 0 0 1 [] := by unfold CvgAt; simp
theorem drop_at {zs : List Int} {k : Nat} {z : Int} (h : zs[k]? = some z) : zs.drop k = z :: zs.drop (k + 1) := by
  have hk : k < zs.length := by
    rcases Nat.lt_or_ge k zs.length with h' | h'
    · exact h'
    · rw [List.getElem?_eq_none h'] at h; cases h
  rw [List.drop_eq_getElem_cons hk]
  rw [List.getElem?_eq_getElem hk] at h
  injection h with h
  rw [h]
theorem CvgAt.step {zs : List Int} {k : Nat} {p q p0 q0 z : Int} {fs : List (Int × Int)} (h : CvgAt zs k p q p0 q0 fs) (hz : zs[k]? = some z) (hv : vfB (z * p + p0) (z * q + q0) = true) :
    CvgAt zs (k + 1) (z * p + p0) (z * q + q0) p q (fs ++ [(z * p + p0, z * q + q0)]) := by
  unfold CvgAt at *
  rw [h, drop_at hz, cvgO, if_pos hv]
  cases cvgO (zs.drop (k + 1)) (z * p + p0) (z * q + q0) p q <;> simp
theorem CvgAt.stop {zs : List Int} {k : Nat} {p q p0 q0 z : Int} {fs : List (Int × Int)} (h : CvgAt zs k p q p0 q0 fs) (hz : zs[k]? = some z) (hv : vfB (z * p + p0) (z * q + q0) = false) : cvgO zs 1 0 0 1 = none := by
  unfold CvgAt at h
  rw [h, drop_at hz, cvgO, if_neg (by simp [hv])]; rfl
theorem CvgAt.done {zs : List Int} {k : Nat} {p q p0 q0 : Int} {fs : List (Int × Int)} (h : CvgAt zs k p q p0 q0 fs) (hk : zs.length ≤ k) : cvgO zs 1 0 0 1 = some fs := by
  unfold CvgAt at h
  rw [h, List.drop_of_length_le hk]; simp [cvgO]
theorem mul_bd2 {x y : Int} (h1 : -2000000000 ≤ x) (h2 : x ≤ 2000000000) (h3 : -1000000000 ≤ y) (h4 : y ≤ 1000000000) : -2000000000000000000 ≤ x * y ∧ x * y ≤ 2000000000000000000 := by
  have h : (x * y).natAbs ≤ 2000000000 * 1000000000 := by rw [Int.natAbs_mul]; exact Nat.mul_le_mul (by omega) (by omega)
  omega

set_option maxRecDepth 100000 in
set_option maxHeartbeats 1600000 in
theorem convergents_any (A : Option Addr) (n cap : Nat) (zs : List Int) (w : World) (h : IRow w A n zs) (hn : n ≤ 1048576) (hzb : ∀ z ∈ zs, -2000000000 ≤ z ∧ z ≤ 2000000000) :
    Calls Tryz.prog 46 #[.slice A n cap] w fun e w' => ResFb w.heap.size (cvgL zs) (cvgB zs) e w' ∧ Below w.heap.size w w' := by
  obtain ⟨i0, hi, hz0, hz1, hz2⟩ := info_parts infoF
  have HL := Lib.hid h.len
  have HZ := Lib.hid hzb
  have hw := Lib.hid h; clear h hzb
  go_enter Tryz.func46, Tryz.ntmps46
  go_wp2_with (at_make; refine wpList_make_own _ rfl _ _ 35 rfl w.heap.size 25 i0 (.agg #[.int .i64 0, .int .i64 0]) 2 Tryz.underlying35 hi hz0 hz1 .i64 .i64 _ n rfl rfl rfl (by rw [hz2]; omega) (by unfold maxLen; omega) (Nat.le_refl _) ?_; intro w0 hown0 hgrow0)
  have HO := Lib.hid hown0
  have hB0 : Below w.heap.size w w0 := (Below.refl _ _).grown hgrow0 (Nat.le_refl _) (fun k hk => by cases hk)
  clear hown0 hgrow0
  go_loopw [4, 5, 6, 7, 8, 17] (fun o a b c d i wr => ∃ (k : Nat) (p q p0 q0 : Int) (B : Option Addr) (cc : Nat) (fs : List (Int × Int)), k ≤ n ∧ i = .int .i64 k ∧ a = .int .i64 p ∧ b = .int .i64 q ∧ c = .int .i64 p0 ∧ d = .int .i64 q0 ∧ o = .slice B k cc ∧
    -1000000000 ≤ p ∧ p ≤ 1000000000 ∧ -1000000000 ≤ q ∧ q ≤ 1000000000 ∧ -1000000000 ≤ p0 ∧ p0 ≤ 1000000000 ∧ -1000000000 ≤ q0 ∧ q0 ≤ 1000000000 ∧
    wr.ownsRow w.heap.size 25 2 (.slice B k cc) k (prs fs) ∧ Hid (CvgAt zs k p q p0 q0 fs) ∧ Below w.heap.size w wr) (fun _ _ _ _ _ i _ => n - (intOf i).toNat)
  case atStart => exact ⟨0, 1, 0, 0, 1, _, _, [], Nat.zero_le _, rfl, rfl, rfl, rfl, rfl, rfl, by omega, by omega, by omega, by omega, by omega, by omega, by omega, by omega, HO.out, CvgAt.start zs, hB0⟩
  case round =>
    obtain ⟨k, p, q, p0, q0, B, cc, fs, hk, rfl, rfl, rfl, rfl, rfl, rfl, p1, p2, q1, q2, p3, p4, q3, q4, hown, HC, hB⟩ := hrel
    clear HO hB0
    have HO := Lib.hid hown
    have HF := Lib.hid hown.lt
    have hbase : w.heap.size ≤ wr.heap.size := hB.size
    clear hown
    by_cases hlt : k < n
    · obtain ⟨ad, z, rfl, hz, z1, z2, hc⟩ := (hw.out.below hB).at_ hlt
      obtain ⟨y1, y2⟩ := HZ.out z (List.mem_of_getElem? hz)
      obtain ⟨m1, m2⟩ := mul_bd2 y1 y2 p1 p2
      obtain ⟨m3, m4⟩ := mul_bd2 y1 y2 q1 q2
      have HZ1 := Lib.hid hz
      clear hz
      cases hv : vfB (z * p + p0) (z * q + q0)
      · go_wp2_with fail
        refine (validFraction_any (z * p + p0) (z * q + q0) _).mono ?_
        rintro e wv ⟨rfl, hbv⟩
        obtain ⟨hcv, hfv, hsv⟩ := keepc hbv
        have hb2 : Below w.heap.size w wv := (hB.alloc hbase _).trans (hbv.mono (by simp; omega))
        go_wp2_with fail
        go_ret2
        obtain ⟨e1, e2⟩ := cvg_none (HC.out.stop HZ1.out hv)
        rw [e1, e2]
        exact ⟨⟨none, 0, rfl, World.ownsRow_nil ..⟩, hb2⟩
      · have hvv := vfB_iff.1 hv
        obtain ⟨v1, v2, v3, v4, _⟩ := hvv
        have v1' : -1000000000 ≤ z * q + q0 := by omega
        go_wp2_with fail
        refine (validFraction_any (z * p + p0) (z * q + q0) _).mono ?_
        rintro e wv ⟨rfl, hbv⟩
        obtain ⟨hcv, hfv, hsv⟩ := keepc hbv
        have hb2 : Below w.heap.size w wv := (hB.alloc hbase _).trans (hbv.mono (by simp; omega))
        have hlv : wr.heap.size < wv.heap.size := by simp at hsv; omega
        have HO2 := Lib.hid (own_below (HO.out.alloc _) hbv)
        have hbase2 : w.heap.size ≤ wv.heap.size := hb2.size
        clear hbv HO
        go_wp2_with (first | (at_builtin; refine wpList_append_lies _ rfl (.tmp 39) (.tmp 41) 35 rfl w.heap.size 25 i0 (.agg #[.int .i64 0, .int .i64 0]) 2 16 Tryz.underlying35 hi hz0 hz1 hz2 rfl (by decide) _ k (prs fs) (by rfl) (HO2.out.alloc _) ⟨wv.heap.size, 0, none⟩ 1 1 [.int .i64 (z * p + p0), .int .i64 (z * q + q0)] (by rfl) rfl ?cells (by simp [Value.oneCell']) (by decide) (by show k + 1 ≤ 9223372036854775807; omega) (by omega) (by simp; omega) (wv.heap.size + 1) (by simp) ?_; rotate_left; intro g cap1 wn hown1 hgrow hat hlt1))
        case cells => exact fun j u hu => newcell (by simp) hu
        go_roundw
        case rel =>
          refine ⟨k + 1, z * p + p0, z * q + q0, p, q, _, _, fs ++ [(z * p + p0, z * q + q0)], by omega, by go_num, rfl, rfl, rfl, rfl, rfl, v3, v4, v1', v2, p1, p2, q1, q2, by rw [prs_append]; exact hown1, HC.out.step HZ1.out hv, (hb2.alloc hbase2 _).grown hgrow (by simp; omega) (fun k hk => (HF.out k hk).1)⟩
        case measure => simp [intOf]; omega
    · obtain rfl : n = k := by omega
      go_wp2_with fail
      go_ret2
      obtain ⟨e1, e2⟩ := cvg_some (HC.out.done (by rw [HL.out]; exact Nat.le_refl _))
      have hl := own_lenP HO.out
      rw [e1, e2]
      subst hl
      exact ⟨⟨B, cc, rfl, HO.out⟩, hB⟩

end Go.Proofs.YtlpglibnjmjjkaaGreatDoor
namespace Go.Proofs.YtlpglibnjmjjkaaGreatDoor
open Go.RowKit
set_option linter.unusedVariables false
attribute [local go_sem ↓] Go.wp_at_zero Go.wp_at_succ

end Go.Proofs.YtlpglibnjmjjkaaGreatDoor
namespace Go.Proofs.YtlpglibnjmjjkaaGreatDoor
open Go.RowKit
set_option linter.unusedVariables false
attribute [local go_sem ↓] Go.wp_at_zero Go.wp_at_succ

theorem trm_in {zs : List Int} (h : trmB zs = true) : 1 ≤ zs.length ∧ zs.length ≤ 60 ∧ ∀ z ∈ zs, -1000000000 ≤ z ∧ z ≤ 1000000000 := by
  obtain ⟨h1, h2, h3⟩ := trmB_iff.1 h
  refine ⟨h1, h2, fun z hz => ?_⟩
  obtain ⟨k, hk⟩ := List.mem_iff_getElem?.1 hz
  have := h3 k z hk
  split at this <;> omega
theorem trm_in2 {zs : List Int} (h : trmB zs = true) : ∀ z ∈ zs, -2000000000 ≤ z ∧ z ≤ 2000000000 := fun z hz => by have := (trm_in h).2.2 z hz; omega

/-- The convergents of terms, and the code. -/
def cvfL (zs : List Int) : List (Int × Int) := if trmB zs = true then cvgL zs else []
def cvfC (zs : List Int) : Int := if trmB zs = true then (if cvgB zs = true then 0 else 5) else 1
theorem cvfL_len (zs : List Int) : (cvfL zs).length ≤ zs.length := by
  unfold cvfL
  split
  · exact cvgL_len zs
  · exact Nat.zero_le _
theorem cvfL_rng (zs : List Int) : ∀ z ∈ cvfL zs, Rng z.1 ∧ Rng z.2 := by
  unfold cvfL
  split
  · exact cvgL_rng zs
  · intro z hz; cases hz
theorem cvg_nil {zs : List Int} (h : cvgB zs = false) : cvgL zs = [] := by
  unfold cvgB at h
  unfold cvgL
  cases hc : cvgO zs 1 0 0 1 with
  | none => rfl
  | some l => rw [hc] at h; cases h
theorem cvg_full {zs : List Int} (h : cvgB zs = true) : (cvgL zs).length = zs.length := by
  unfold cvgB at h
  unfold cvgL
  cases hc : cvgO zs 1 0 0 1 with
  | none => rw [hc] at h; cases h
  | some l => exact (cvgO_len zs _ _ _ _ l hc).1

theorem implCvf_any (A : Option Addr) (n cap : Nat) (zs : List Int) (w : World) (h : IRow w A n zs) (hcap : n ≤ cap) :
    Calls Tryz.prog 11 #[.slice A n cap] w fun e w' => ResF w.heap.size (cvfL zs) (cvfC zs) e w' ∧ Below w.heap.size w w' := by
  cases ht : trmB zs
  · rw [show cvfL zs = [] from if_neg (by simp [ht]), show cvfC zs = 1 from if_neg (by simp [ht])]
    go_enter Tryz.func11, Tryz.ntmps11
    go_wp2_with fail
    refine (validTerms_any A n cap zs _ h hcap).mono ?_
    rintro e w' ⟨rfl, rfl⟩
    go_wp2_with fail
    go_ret2
    exact ⟨⟨none, 0, rfl, World.ownsRow_nil ..⟩, Below.refl _ _⟩
  · obtain ⟨t1, t2, t3⟩ := trm_in ht
    have hn : n ≤ 60 := by rw [← h.len]; exact t2
    rw [show cvfL zs = cvgL zs from if_pos ht, show cvfC zs = if cvgB zs = true then 0 else 5 from if_pos ht]
    have HC := Lib.hid (convergents_any A n cap zs w h (by omega) (trm_in2 ht))
    clear t1 t2 t3
    cases hb : cvgB zs
    · rw [cvg_nil hb] at *
      go_enter Tryz.func11, Tryz.ntmps11
      go_wp2_with fail
      refine (validTerms_any A n cap zs _ h hcap).mono ?_
      rintro e w' ⟨rfl, rfl⟩
      go_wp2_with fail
      refine HC.out.mono ?_
      rintro e w1 ⟨⟨B, c, rfl, ho⟩, hb1⟩
      clear ho
      go_wp2_with fail
      go_ret2
      exact ⟨⟨none, 0, rfl, World.ownsRow_nil ..⟩, hb1⟩
    · go_enter Tryz.func11, Tryz.ntmps11
      go_wp2_with fail
      refine (validTerms_any A n cap zs _ h hcap).mono ?_
      rintro e w' ⟨rfl, rfl⟩
      go_wp2_with fail
      refine HC.out.mono ?_
      rintro e w1 ⟨⟨B, c, rfl, ho⟩, hb1⟩
      have HO := Lib.hid ho
      clear ho
      go_wp2_with fail
      go_ret2
      exact ⟨⟨B, c, rfl, HO.out⟩, hb1⟩
end Go.Proofs.YtlpglibnjmjjkaaGreatDoor
namespace Go.Proofs.YtlpglibnjmjjkaaGreatDoor
open Go.RowKit
set_option linter.unusedVariables false
set_option linter.unusedSimpArgs false
attribute [local go_sem ↓] Go.wp_at_zero Go.wp_at_succ

theorem own_cellP {w : World} {base e n c g : Nat} {zs : List (Int × Int)} {k : Nat} {z : Int × Int} (h : w.ownsRow base e 2 (.slice (some ⟨g, 0, none⟩) n c) n (prs zs)) (hz : zs[k]? = some z) :
    w.cell? ⟨g, k * 2, none⟩ = some (.int .i64 z.1) ∧ w.cell? ⟨g, k * 2 + 1, none⟩ = some (.int .i64 z.2) := by
  have hl := own_lenP h
  have hk : k < n := by
    rcases Nat.lt_or_ge k zs.length with h' | h'
    · omega
    · rw [List.getElem?_eq_none h'] at hz; cases hz
  rw [h.cellAt (k * 2) (by omega), h.cellAt (k * 2 + 1) (by omega)]
  exact ⟨prs_get1 zs k z hz, prs_get2 zs k z hz⟩
/-- The last one. -/
def lastP (l : List (Int × Int)) : Int × Int := l.getD (l.length - 1) (0, 0)
theorem lastP_at {l : List (Int × Int)} {n : Nat} (hl : l.length = n) (hn : 1 ≤ n) : l[n - 1]? = some (lastP l) := by
  unfold lastP
  rw [hl, List.getD_eq_getElem?_getD, List.getElem?_eq_getElem (by omega)]; rfl

/-- The value of terms, and a code. -/
def valT (zs : List Int) : Int × Int × Int := if trmB zs = true then (if cvgB zs = true then ((lastP (cvgL zs)).1, (lastP (cvgL zs)).2, 0) else (0, 0, 5)) else (0, 0, 1)

set_option maxHeartbeats 800000 in
theorem implVal_any (A : Option Addr) (n cap : Nat) (zs : List Int) (w : World) (h : IRow w A n zs) (hcap : n ≤ cap) :
    Calls Tryz.prog 9 #[.slice A n cap] w fun e w' => e = .returned (.tuple #[.agg #[.int .i64 (valT zs).1, .int .i64 (valT zs).2.1], .int .i64 (valT zs).2.2]) ∧ Below w.heap.size w w' := by
  have HC := Lib.hid (implCvf_any A n cap zs _ (h.alloc (.cells #[.int .i64 0, .int .i64 0] 25)) hcap)
  by_cases ht : trmB zs = true ∧ cvgB zs = true
  · obtain ⟨h1, h2⟩ := ht
    rw [show valT zs = ((lastP (cvgL zs)).1, (lastP (cvgL zs)).2, 0) from by unfold valT; rw [if_pos h1, if_pos h2]]
    have hl : (cvgL zs).length = n := (cvg_full h2).trans h.len
    have hn1 : 1 ≤ n := by have := (trm_in h1).1; rw [h.len] at this; exact this
    have hz := lastP_at hl hn1
    rw [show cvfL zs = cvgL zs from if_pos h1, show cvfC zs = 0 from by unfold cvfC; rw [if_pos h1, if_pos h2]] at HC
    unfold ResF at HC
    rw [hl] at HC
    generalize cvgL zs = fs at *
    have hbd := h.bd
    generalize lastP fs = X at *
    obtain ⟨x, y⟩ := X
    have HZ := Lib.hid hz
    clear hl hz h1 h2 h
    go_enter Tryz.func9, Tryz.ntmps9
    go_wp2_with fail
    refine HC.out.mono ?_
    rintro e w1 ⟨⟨B, c, rfl, ho⟩, hb1⟩
    obtain ⟨g, rfl, hg1, hg2⟩ := own_some ho (by omega)
    obtain ⟨k0, k1⟩ := own_cellP ho HZ.out
    simp only at k0 k1
    obtain ⟨hc1, hf1, hs1⟩ := keepc hb1
    have hB1 : Below w.heap.size w w1 := Below.trans (by go_grown) (hb1.mono (by simp))
    have hl1 : w.heap.size < w1.heap.size := by simp at hs1; omega
    have z0 : w1.cell? ⟨w.heap.size, 0, none⟩ = some (.int .i64 0) := by rw [hc1 _ _ (by simp)]; simp [go_sem]
    have z1 : w1.cell? ⟨w.heap.size, 1, none⟩ = some (.int .i64 0) := by rw [hc1 _ _ (by simp)]; simp [go_sem]
    clear ho hb1 HC
    go_wp2_with fail
    exact bodyPost_ret (v := .tuple #[.agg #[.int .i64 x, .int .i64 y], .int .i64 0]) (by simp [results, Tryz.results9, go_sem, pair_set z0 z1]) rfl ⟨rfl, (hB1.setCell (p := ⟨w.heap.size, 0, none⟩) (Nat.le_refl _) _).setCell (p := ⟨w.heap.size, 1, none⟩) (Nat.le_refl _) _⟩
  · have hv : valT zs = (0, 0, cvfC zs) ∧ cvfC zs ≠ 0 := by
      unfold valT cvfC
      by_cases h1 : trmB zs = true
      · have h2 : ¬ cvgB zs = true := fun h2 => ht ⟨h1, h2⟩
        rw [if_pos h1, if_neg h2, if_pos h1, if_neg h2]; simp
      · rw [if_neg h1, if_neg h1]; simp
    obtain ⟨hv, hk⟩ := hv
    rw [hv]
    have hne : (cvfC zs != 0) = true := by rw [bne_iff_ne]; exact hk
    generalize cvfC zs = k at *
    unfold ResF at HC
    generalize cvfL zs = fs at *
    clear hv hk ht
    go_enter Tryz.func9, Tryz.ntmps9
    go_wp2_with fail
    refine HC.out.mono ?_
    rintro e w1 ⟨⟨B, c, rfl, ho⟩, hb1⟩
    obtain ⟨hc1, hf1, hs1⟩ := keepc hb1
    have hB1 : Below w.heap.size w w1 := Below.trans (by go_grown) (hb1.mono (by simp))
    have hl1 : w.heap.size < w1.heap.size := by simp at hs1; omega
    have z0 : w1.cell? ⟨w.heap.size, 0, none⟩ = some (.int .i64 0) := by rw [hc1 _ _ (by simp)]; simp [go_sem]
    have z1 : w1.cell? ⟨w.heap.size, 1, none⟩ = some (.int .i64 0) := by rw [hc1 _ _ (by simp)]; simp [go_sem]
    clear ho hb1 HC
    go_wp2_with fail
    exact bodyPost_ret (v := .tuple #[.agg #[.int .i64 0, .int .i64 0], .int .i64 k]) (by simp [results, Tryz.results9, go_sem, pair_set z0 z1]) rfl ⟨rfl, (hB1.setCell (p := ⟨w.heap.size, 0, none⟩) (Nat.le_refl _) _).setCell (p := ⟨w.heap.size, 1, none⟩) (Nat.le_refl _) _⟩
end Go.Proofs.YtlpglibnjmjjkaaGreatDoor
