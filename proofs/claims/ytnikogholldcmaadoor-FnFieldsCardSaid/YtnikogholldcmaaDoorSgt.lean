/-
  The texts of terms with signs: contracts of the program's and of the reference's functions; the walk of the law FnExactSignedText.
  The table of the powers of ten holds what its initialiser lays.
-/
import Derived.Test.YtnikogholldcmaaDoorProg
import Derived.Test.YtnikogholldcmaaDoorMem
import Derived.Test.YtnikogholldcmaaDoorBasic
import Derived.Test.YtnikogholldcmaaDoorAllk
import Derived.Test.YtnikogholldcmaaDoorSig
import Derived.Test.YtnikogholldcmaaDoorSgn
import Derived.Test.YtnikogholldcmaaDoorOwn
import Derived.Test.YtnikogholldcmaaDoorNumM
import Derived.Test.YtnikogholldcmaaDoorSgtM
import Derived.Test.YtnikogholldcmaaDoorDec
import Derived.Test.YtnikogholldcmaaDoorFtx
import Derived.Test.YtnikogholldcmaaDoorTtx
import Derived.Handy
import Derived.BigQuiet
import Derived.Deep.QuietTactic
namespace Go.Proofs.YtnikogholldcmaaDoor
open Go.RowKit
set_option linter.unusedVariables false
set_option linter.unusedSimpArgs false
attribute [local go_sem ↓] Go.wp_at_zero Go.wp_at_succ

/-- The text of terms with signs as a string. -/
def sgS (zs : List (Int × Int)) : ByteArray := if sgnB zs = true then ⟨(sgL zs).toArray⟩ else ⟨#[]⟩
set_option maxRecDepth 100000 in
set_option maxHeartbeats 3200000 in
theorem l04Text_any (A : Option Addr) (n cap : Nat) (zs : List (Int × Int)) (w : World) (h : PRow w A n zs) (hv : sgnB zs = true) :
    Calls Tryd.prog 71 #[.slice A n cap] w fun e w' => e = .returned (.string ⟨(sgL zs).toArray⟩) ∧ Below w.heap.size w w' := by
  obtain ⟨h1, hn, hsg⟩ := sgn_in hv
  rw [h.len] at h1 hn
  obtain ⟨bb, oo, s, z, rfl, hz, _, _, z1, z2, _, hc⟩ := h.at_ (k := 0) (by omega)
  simp only [Nat.zero_mul, Nat.add_zero] at hc
  have hhd : (zs.headD (0, 0)).2 = z := by cases zs with | nil => cases hz | cons a r => simp at hz; simp [hz]
  have hs1 : (decS z).size ≤ 21 := decS_size z1 z2
  have HW := Lib.hid h
  have HH := Lib.hid hhd
  have HLen := Lib.hid h.len
  have HS := Lib.hid hsg
  clear h hz hhd hsg hv
  go_enter Tryd.func71, Tryd.ntmps71
  go_wp2_with fail
  refine (l01Dec_any z w z1 z2).mono ?_
  rintro e w1 ⟨rfl, hb1⟩
  have HB1 := Lib.hid hb1
  clear hb1 hc
  go_wp2_with fail
  go_loopw [3, 4] (fun a i wr => ∃ (k : Nat) (o : ByteArray), 1 ≤ k ∧ k ≤ n ∧ i = .int .i64 k ∧ a = .string o ∧ o.size ≤ 30 * k ∧ Hid (o.data.toList = sfL zs k) ∧ Below w.heap.size w wr) (fun _ i _ => n - (intOf i).toNat)
  case atStart => exact ⟨1, _, Nat.le_refl _, h1, rfl, rfl, by omega, by show _ = _; rw [decS_data, sfL_one, HH.out], HB1.out⟩
  case round =>
    obtain ⟨k, o, hk1, hkn, rfl, rfl, ho, HO, hbel⟩ := hrel
    by_cases hlt : k < n
    · obtain ⟨b', o', x, y, e, hy, _, _, y1, y2, hcx, hcy⟩ := (HW.out.below hbel).at_ hlt
      injection e with e
      injection e with e1 e2
      subst e1 e2
      have hs2 : (decS y).size ≤ 21 := decS_size y1 y2
      have HP := Lib.hid (sfL_step hk1 hy)
      have hx := (HS.out _ (List.mem_of_getElem? hy)).1
      simp only at hx
      have HB := Lib.hid hbel
      have hk60 : k ≤ 60 := by omega
      clear hy hbel
      rcases hx with hx | hx
      · have HX := Lib.hid (show mkS x = [32, 43] by unfold mkS; first | rw [if_pos (by omega)] | rw [if_neg (by omega)])
        have hx0 : x < 2 := by omega
        have hx1 : -2 < x := by omega
        subst hx
        go_wp2_with fail
        refine (l01Dec_any y wr y1 y2).mono ?_
        rintro e w2 ⟨rfl, hb2⟩
        have HB2 := Lib.hid (HB.out.trans (hb2.mono HB.out.size))
        clear hb2 hcy hcx
        go_wp2_with fail
        go_roundw
        case rel => exact ⟨k + 1, _, by omega, by omega, by go_num, rfl, by rw [size_app, size_app]; have : (⟨#[32, 43]⟩ : ByteArray).size = 2 := rfl; omega, by show _ = _; rw [data_app, data_app, decS_data, HO.out, HP.out, HX.out], HB2.out⟩
        case measure => simp [intOf]; omega
      · have HX := Lib.hid (show mkS x = [32, 45] by unfold mkS; first | rw [if_pos (by omega)] | rw [if_neg (by omega)])
        have hx0 : x < 2 := by omega
        have hx1 : -2 < x := by omega
        subst hx
        go_wp2_with fail
        refine (l01Dec_any y wr y1 y2).mono ?_
        rintro e w2 ⟨rfl, hb2⟩
        have HB2 := Lib.hid (HB.out.trans (hb2.mono HB.out.size))
        clear hb2 hcy hcx
        go_wp2_with fail
        go_roundw
        case rel => exact ⟨k + 1, _, by omega, by omega, by go_num, rfl, by rw [size_app, size_app]; have : (⟨#[32, 45]⟩ : ByteArray).size = 2 := rfl; omega, by show _ = _; rw [data_app, data_app, decS_data, HO.out, HP.out, HX.out], HB2.out⟩
        case measure => simp [intOf]; omega
    · obtain rfl : n = k := by omega
      have HE := Lib.hid (sfL_all hk1 HLen.out)
      have HB := Lib.hid hbel
      clear hbel
      go_wp2_with fail
      go_ret
      exact ⟨ret_str (str_ext (by rw [HO.out, data_mk, HE.out])), HB.out⟩
theorem specSgt_any (A : Option Addr) (n cap : Nat) (zs : List (Int × Int)) (w : World) (h : PRow w A n zs) :
    Calls Tryd.prog 29 #[.slice A n cap] w fun e w' => e = .returned (.string (sgS zs)) ∧ Below w.heap.size w w' := by
  have HV := Lib.hid (l04Ok_any A n cap zs w h)
  cases hv : sgnB zs
  · rw [show sgS zs = ⟨#[]⟩ from if_neg (by rw [hv]; decide)]
    rw [hv] at HV
    go_enter Tryd.func29, Tryd.ntmps29
    go_wp2_with fail
    refine HV.out.mono ?_
    rintro e w' ⟨rfl, rfl⟩
    go_wp2_with fail
    go_ret
    exact ⟨rfl, Below.refl _ _⟩
  · rw [show sgS zs = ⟨(sgL zs).toArray⟩ from if_pos hv]
    rw [hv] at HV
    have HT := Lib.hid (l04Text_any A n cap zs w h hv)
    clear h hv
    go_enter Tryd.func29, Tryd.ntmps29
    go_wp2_with fail
    refine HV.out.mono ?_
    rintro e w' ⟨rfl, rfl⟩
    go_wp2_with fail
    refine HT.out.mono ?_
    rintro e w1 ⟨rfl, hb⟩
    have HB := Lib.hid hb
    clear hb
    go_wp2_with fail
    go_ret
    exact ⟨rfl, HB.out⟩
set_option maxRecDepth 100000 in
set_option maxHeartbeats 3200000 in
theorem implSgt_any (A : Option Addr) (n cap : Nat) (zs : List (Int × Int)) (w : World) (h : PRow w A n zs) (hcap : n ≤ cap) (hd : Dr w) :
    Calls Tryd.prog 31 #[.slice A n cap] w fun e w' => e = .returned (.string (sgS zs)) ∧ Below w.heap.size w w' := by
  have HV := Lib.hid (validSigned_any A n cap zs w h hcap)
  cases hv : sgnB zs
  · rw [show sgS zs = ⟨#[]⟩ from if_neg (by rw [hv]; decide)]
    rw [hv] at HV
    go_enter Tryd.func31, Tryd.ntmps31
    go_wp2_with fail
    refine HV.out.mono ?_
    rintro e w1 ⟨rfl, hb⟩
    have HB := Lib.hid hb
    clear hb
    go_wp2_with fail
    go_ret
    exact ⟨rfl, HB.out⟩
  · rw [show sgS zs = ⟨(sgL zs).toArray⟩ from if_pos hv]
    rw [hv] at HV
    obtain ⟨h1, hn, hsg⟩ := sgn_in hv
    rw [h.len] at h1 hn
    obtain ⟨bb, oo, s, z, rfl, hz, _, _, z1, z2, _, hc⟩ := h.at_ (k := 0) (by omega)
    simp only [Nat.zero_mul, Nat.add_zero] at hc
    have hhd : (zs.headD (0, 0)).2 = z := by cases zs with | nil => cases hz | cons a r => simp at hz; simp [hz]
    have hs1 : (decS z).size ≤ 21 := decS_size z1 z2
    have HW := Lib.hid h
    have HH := Lib.hid hhd
    have HLen := Lib.hid h.len
    have HS := Lib.hid hsg
    have HD := Lib.hid hd
    have hbl := World.block_lt_of_cell? w _ hc
    have HC := Lib.hid hc
    clear h hz hhd hsg hv hd hc
    go_enter Tryd.func31, Tryd.ntmps31
    go_wp2_with fail
    refine HV.out.mono ?_
    rintro e w1 ⟨rfl, hb⟩
    have hc1 : w1.cell? ⟨bb, oo + 1, none⟩ = some (.int .i64 z) := (hb.cell (p := ⟨bb, oo + 1, none⟩) hbl).trans HC.out
    have HB1 := Lib.hid hb
    clear hb
    go_wp2_with fail
    refine (decimal_any z w1 z1 z2 (HD.out.below HB1.out)).mono ?_
    rintro e w2 ⟨rfl, hb⟩
    have HB2 := Lib.hid (HB1.out.trans (hb.mono HB1.out.size))
    clear hb hc1
    by_cases hc1 : cap = 1
    · obtain rfl : n = 1 := by omega
      subst hc1
      have HE := Lib.hid (sfL_all (Nat.le_refl 1) HLen.out)
      have HP := Lib.hid (sfL_one zs)
      go_wp2_with fail
      go_loopw [3, 18] (fun a i wr => a = .string (decS z) ∧ i = .int .i64 0 ∧ Below w.heap.size w wr) (fun _ _ _ => 0)
      case atStart => exact ⟨rfl, rfl, HB2.out⟩
      case round =>
        obtain ⟨rfl, rfl, hbel⟩ := hrel
        have HB := Lib.hid hbel
        clear hbel
        go_wp2_with fail
        go_ret
        exact ⟨ret_str (str_ext (by rw [decS_data, data_mk, HE.out, HP.out, HH.out])), HB.out⟩
    · have HWt := Lib.hid (HW.out.tail h1)
      go_wp2_with fail
      go_loopw [3, 18] (fun a i wr => ∃ (k : Nat) (o : ByteArray), k ≤ n - 1 ∧ i = .int .i64 k ∧ a = .string o ∧ o.size ≤ 30 * (k + 1) ∧ Hid (o.data.toList = sfL zs (k + 1)) ∧ Below w.heap.size w wr) (fun _ i _ => n - 1 - (intOf i).toNat)
      case atStart => exact ⟨0, _, Nat.zero_le _, rfl, rfl, by omega, by show _ = _; rw [decS_data, sfL_one, HH.out], HB2.out⟩
      case round =>
        obtain ⟨k, o, hkn, rfl, rfl, ho, HO, hbel⟩ := hrel
        by_cases hlt : k < n - 1
        · obtain ⟨b', o', x, y, e, hy, _, _, y1, y2, hcx, hcy⟩ := (HWt.out.below hbel).at_ hlt
          injection e with e
          injection e with e1 e2
          subst e1 e2
          rw [List.getElem?_tail] at hy
          have hs2 : (decS y).size ≤ 21 := decS_size y1 y2
          have HP := Lib.hid (sfL_step (show 1 ≤ k + 1 by omega) hy)
          have hx := (HS.out _ (List.mem_of_getElem? hy)).1
          simp only at hx
          have HB := Lib.hid hbel
          have hk60 : k ≤ 60 := by omega
          clear hy hbel
          rcases hx with hx | hx
          · have HX := Lib.hid (show mkS x = [32, 43] by unfold mkS; first | rw [if_pos (by omega)] | rw [if_neg (by omega)])
            subst hx
            go_wp2_with fail
            refine (decimal_any y _ y1 y2 ((HD.out.below HB.out).below ((Below.refl _ _).alloc (Nat.le_refl _) _))).mono ?_
            rintro e w3 ⟨rfl, hb3⟩
            have HB3 := Lib.hid ((HB.out.alloc HB.out.size _).trans (hb3.mono (by have := HB.out.size; simp; omega)))
            clear hb3 hcy hcx
            go_wp2_with fail
            go_roundw
            case rel => exact ⟨k + 1, _, by omega, by go_num, rfl, by rw [size_app, size_app]; have : (⟨#[32, 43]⟩ : ByteArray).size = 2 := rfl; omega, by show _ = _; rw [data_app, data_app, decS_data, HO.out, HP.out, HX.out], HB3.out⟩
            case measure => simp [intOf]; omega
          · have HX := Lib.hid (show mkS x = [32, 45] by unfold mkS; first | rw [if_pos (by omega)] | rw [if_neg (by omega)])
            subst hx
            go_wp2_with fail
            refine (decimal_any y _ y1 y2 ((HD.out.below HB.out).below ((Below.refl _ _).alloc (Nat.le_refl _) _))).mono ?_
            rintro e w3 ⟨rfl, hb3⟩
            have HB3 := Lib.hid ((HB.out.alloc HB.out.size _).trans (hb3.mono (by have := HB.out.size; simp; omega)))
            clear hb3 hcy hcx
            go_wp2_with fail
            go_roundw
            case rel => exact ⟨k + 1, _, by omega, by go_num, rfl, by rw [size_app, size_app]; have : (⟨#[32, 45]⟩ : ByteArray).size = 2 := rfl; omega, by show _ = _; rw [data_app, data_app, decS_data, HO.out, HP.out, HX.out], HB3.out⟩
            case measure => simp [intOf]; omega
        · have hkn2 : n = k + 1 := by omega
          have HE := Lib.hid (sfL_all (zs := zs) (show 1 ≤ k + 1 by omega) (by rw [HLen.out]; exact hkn2))
          have HB := Lib.hid hbel
          clear hbel hkn2
          go_wp2_with fail
          go_ret
          exact ⟨ret_str (str_ext (by rw [HO.out, data_mk, HE.out])), HB.out⟩
theorem fnExactSignedText_walk (w : World) (A : Option Addr) (n cap : Nat) (zs : List (Int × Int)) (h : PRow w A n zs) (hd : Dr w) :
    Calls Tryd.prog 7 #[.slice A n cap] w fun e w' => e = .returned (.bool true) ∧ Below w.heap.size w w' := by
  by_cases hn : (1048576 : Int) < n
  · go_enter Tryd.func7, Tryd.ntmps7
    go_wp2_with fail
    refine (sz_over A n cap 1048576 w h.bd (by omega) (by omega) hn).mono ?_
    rintro e w' ⟨rfl, rfl⟩
    go_wp2_with fail
    go_ret
    exact ⟨rfl, Below.refl _ _⟩
  · have Hr := Lib.hid h.2.2.1
    have hn2 : n ≤ 1048576 := by omega
    have HZ := Lib.hid (sz_fits A n cap 1048576 w h.bd (by omega) (by omega) hn)
    have hge : ¬ (1048576 : Int) - n < 0 := by omega
    have HD := Lib.hid hd
    clear hd hn
    go_enter Tryd.func7, Tryd.ntmps7
    go_wp2_with fail
    refine HZ.out.mono ?_
    rintro e w' ⟨rfl, rfl⟩
    go_wp2_with fail
    refine (toSignedTermS_any A n cap zs _ h hn2).mono ?_
    rintro e w1 ⟨A1, c1, rfl, ho1, hb1⟩
    obtain ⟨hc1, hf1, hs1⟩ := keepc hb1
    have hB1 : Below w.heap.size w w1 := Below.trans (by go_grown) (hb1.mono (by first | exact Nat.le_refl _ | (simp only [World.size_alloc]; omega)))
    try simp only [World.size_alloc] at hs1
    have r1 := PRow.of_own ho1 (by omega) Hr.out
    go_wp2_with fail
    refine (specSgt_any A1 n c1 zs _ r1).mono ?_
    rintro e w2 ⟨rfl, hb2⟩
    obtain ⟨hc2, hf2, hs2⟩ := keepc hb2
    have hB2 : Below w.heap.size w w2 := hB1.trans (hb2.mono (by have := hB1.size; omega))
    go_wp2_with fail
    refine (toSignedTermS_any A n cap zs _ (h.below hB2) hn2).mono ?_
    rintro e w3 ⟨A2, c2, rfl, ho2, hb3⟩
    obtain ⟨hc3, hf3, hs3⟩ := keepc hb3
    have hB3 : Below w.heap.size w w3 := hB2.trans (hb3.mono (by have := hB2.size; omega))
    have r2 := PRow.of_own ho2 (by omega) Hr.out
    go_wp2_with fail
    refine (implSgt_any A2 n c2 zs _ r2 (own_cap ho2) (HD.out.below hB3)).mono ?_
    rintro e w4 ⟨rfl, hb4⟩
    obtain ⟨hc4, hf4, hs4⟩ := keepc hb4
    have hB4 : Below w.heap.size w w4 := hB3.trans (hb4.mono (by have := hB3.size; omega))
    replace r2 := r2.below hb4
    go_wp2_with fail
    refine (toSignedTermS_any A n cap zs _ (h.below hB4) hn2).mono ?_
    rintro e w5 ⟨A3, c3, rfl, ho3, hb5⟩
    obtain ⟨hc5, hf5, hs5⟩ := keepc hb5
    have hB5 : Below w.heap.size w w5 := hB4.trans (hb5.mono (by have := hB4.size; omega))
    have r3 := PRow.of_own ho3 (by omega) Hr.out
    replace r2 := r2.below hb5
    go_wp2_with fail
    refine (eqSignedTermS_same A2 n c2 A3 c3 zs _ r2 r3).mono ?_
    rintro e w6 ⟨rfl, hb6⟩
    obtain ⟨hc6, hf6, hs6⟩ := keepc hb6
    have hB6 : Below w.heap.size w w6 := hB5.trans (hb6.mono (by have := hB5.size; omega))
    go_wp2_with fail
    go_ret
    exact ⟨rfl, hB6⟩
end Go.Proofs.YtnikogholldcmaaDoor
