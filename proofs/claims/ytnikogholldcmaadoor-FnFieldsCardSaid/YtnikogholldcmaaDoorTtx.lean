/-
  The texts of terms: contracts of the program's and of the reference's functions; the walk of the law FnExactTermsText.
  The table of the powers of ten holds what its initialiser lays.
-/
import Derived.Test.YtnikogholldcmaaDoorProg
import Derived.Test.YtnikogholldcmaaDoorShelf
import Derived.Test.YtnikogholldcmaaDoorMem
import Derived.Test.YtnikogholldcmaaDoorBasic
import Derived.Test.YtnikogholldcmaaDoorAllk
import Derived.Test.YtnikogholldcmaaDoorInts
import Derived.Test.YtnikogholldcmaaDoorMarks
import Derived.Test.YtnikogholldcmaaDoorTerms
import Derived.Test.YtnikogholldcmaaDoorOwn
import Derived.Test.YtnikogholldcmaaDoorNumM
import Derived.Test.YtnikogholldcmaaDoorTxtM
import Derived.Test.YtnikogholldcmaaDoorDec
import Derived.Test.YtnikogholldcmaaDoorFtx
import Derived.Handy
import Derived.BigQuiet
import Derived.Deep.QuietTactic
namespace Go.Proofs.YtnikogholldcmaaDoor
open Go.RowKit
set_option linter.unusedVariables false
set_option linter.unusedSimpArgs false
attribute [local go_sem ↓] Go.wp_at_zero Go.wp_at_succ

theorem info_str : (Tryd.prog.info? 9).map (fun i => (i.zero, i.size, i.bytes)) = some (some (.string ByteArray.empty), 1, 16) := by kernel_rfl
/-- The text of terms as a string. -/
def txS (zs : List Int) : ByteArray := if trmB zs = true then ⟨(txL zs).toArray⟩ else ⟨#[]⟩
theorem data_mk (l : List UInt8) : (⟨l.toArray⟩ : ByteArray).data.toList = l := by simp
theorem data_app (a b : ByteArray) : (a ++ b).data.toList = a.data.toList ++ b.data.toList := by simp

set_option maxRecDepth 100000 in
set_option maxHeartbeats 3200000 in
theorem l03Text_any (A : Option Addr) (n cap : Nat) (zs : List Int) (w : World) (h : IRow w A n zs) (h1 : 1 ≤ n) (hn : n ≤ 60) :
    Calls Tryd.prog 57 #[.slice A n cap] w fun e w' => e = .returned (.string ⟨(txL zs).toArray⟩) ∧ Below w.heap.size w w' := by
  obtain ⟨ad, z, rfl, hz, z1, z2, hc⟩ := h.at_ (k := 0) (by omega)
  rw [addr_nil] at hc
  have hhd : zs.headD 0 = z := by cases zs with | nil => cases hz | cons a r => simp at hz; exact hz
  have hs1 : (decS z).size ≤ 21 := decS_size z1 z2
  have HW := Lib.hid h
  have HH := Lib.hid hhd
  have HLen := Lib.hid h.len
  clear h hz hhd
  go_enter Tryd.func57, Tryd.ntmps57
  go_wp2_with fail
  refine (l01Dec_any z w z1 z2).mono ?_
  rintro e w1 ⟨rfl, hb1⟩
  have HB1 := Lib.hid hb1
  clear hb1 hc
  go_wp2_with fail
  go_loopw [3, 4] (fun a i wr => ∃ (k : Nat) (o : ByteArray), 1 ≤ k ∧ k ≤ n ∧ i = .int .i64 k ∧ a = .string o ∧ o.size ≤ 30 * k ∧ Hid (o.data.toList = pfL zs k) ∧ Below w.heap.size w wr) (fun _ i _ => n - (intOf i).toNat)
  case atStart => exact ⟨1, _, Nat.le_refl _, h1, rfl, rfl, by rw [size_app]; have : (⟨#[91]⟩ : ByteArray).size = 1 := rfl; omega, by show _ = _; rw [data_app, decS_data, pfL_one, HH.out]; rfl, HB1.out⟩
  case round =>
    obtain ⟨k, o, hk1, hkn, rfl, rfl, ho, HO, hbel⟩ := hrel
    by_cases hlt : k < n
    · obtain ⟨ad', y, e, hy, y1, y2, hcy⟩ := (HW.out.below hbel).at_ hlt
      injection e with e
      subst e
      have hs2 : (decS y).size ≤ 21 := decS_size y1 y2
      have HP := Lib.hid (pfL_step hk1 hy)
      have HB := Lib.hid hbel
      clear hy hbel
      rcases (by omega : k = 1 ∨ 2 ≤ k) with hk | hk
      · have hke : ((k : Int) == 1) = true := by first | exact beq_iff_eq.2 (by omega) | exact beq_eq_false_iff_ne.2 (by omega)
        have HK := Lib.hid hk
        have hk0 : 1 ≤ k := hk1
        have hk60 : k ≤ 60 := by omega
        clear hk
        go_wp2_with fail
        refine (l01Dec_any y wr y1 y2).mono ?_
        rintro e w2 ⟨rfl, hb2⟩
        have HB2 := Lib.hid (HB.out.trans (hb2.mono HB.out.size))
        clear hb2 hcy
        go_wp2_with fail
        go_roundw
        case rel => exact ⟨k + 1, _, by omega, by omega, by go_num, rfl, by rw [size_app, size_app]; have : (⟨#[59, 32]⟩ : ByteArray).size = 2 := rfl; omega, by show _ = _; rw [data_app, data_app, decS_data, HO.out, HP.out]; first | rw [if_pos HK.out] | rw [if_neg (by have := HK.out; omega)], HB2.out⟩
        case measure => simp [intOf]; omega
      · have hke : ((k : Int) == 1) = false := by first | exact beq_iff_eq.2 (by omega) | exact beq_eq_false_iff_ne.2 (by omega)
        have HK := Lib.hid hk
        have hk0 : 1 ≤ k := hk1
        have hk60 : k ≤ 60 := by omega
        clear hk
        go_wp2_with fail
        refine (l01Dec_any y wr y1 y2).mono ?_
        rintro e w2 ⟨rfl, hb2⟩
        have HB2 := Lib.hid (HB.out.trans (hb2.mono HB.out.size))
        clear hb2 hcy
        go_wp2_with fail
        go_roundw
        case rel => exact ⟨k + 1, _, by omega, by omega, by go_num, rfl, by rw [size_app, size_app]; have : (⟨#[44, 32]⟩ : ByteArray).size = 2 := rfl; omega, by show _ = _; rw [data_app, data_app, decS_data, HO.out, HP.out]; first | rw [if_pos HK.out] | rw [if_neg (by have := HK.out; omega)], HB2.out⟩
        case measure => simp [intOf]; omega
    · obtain rfl : n = k := by omega
      have HE := Lib.hid (pfL_all hk1 HLen.out)
      have HB := Lib.hid hbel
      clear hbel
      go_wp2_with fail
      go_ret
      exact ⟨ret_str (str_ext (by rw [data_app, HO.out, data_mk, HE.out])), HB.out⟩
theorem join_len {zs : List Int} (h : ∀ z ∈ zs, Rng z) : (Lib.join (zs.map Lib.itoa) [44, 32]).length ≤ 23 * zs.length := by
  cases zs with
  | nil => simp [Lib.join]
  | cons y r =>
    rw [join_tl, List.length_append, List.length_cons]
    have h1 := Lib.itoa_length_le y (h y (by simp)).1 (h y (by simp)).2
    have h2 := tlL_len r (fun z hz => h z (by simp [hz]))
    omega
set_option maxRecDepth 100000 in
set_option maxHeartbeats 3200000 in
theorem decimals_any (A : Option Addr) (n cap : Nat) (zs : List Int) (w : World) (h : IRow w A n zs) (h1 : 1 ≤ n) (hn : n ≤ 1048576) (hd : Dr w) :
    Calls Tryd.prog 76 #[.slice A n cap, .string ⟨#[44, 32]⟩] w fun e w' => e = .returned (.string ⟨(Lib.join (zs.map Lib.itoa) [44, 32]).toArray⟩) ∧ Below w.heap.size w w' := by
  have hlen := Lib.hid h.len
  have HRg := Lib.hid h.2.2.1
  obtain ⟨i0, hi, hz0, hz1, hz2⟩ := info_parts info_str
  have hw := Lib.hid h; clear h
  have HD := Lib.hid hd; clear hd
  go_enter Tryd.func76, Tryd.ntmps76
  go_wp2_with (at_make; refine wpList_make_full _ rfl _ _ 36 rfl w.heap.size 9 i0 (.string ByteArray.empty) 1 Tryd.underlying36 hi hz0 hz1 .i64 .i64 n n n rfl rfl rfl rfl ?c1 ?c2 ?c3 ?_)
  case c1 => rw [hz2]; omega
  case c2 => unfold maxLen; omega
  case c3 => exact Nat.le_refl _
  intro w1 hown hg
  have hb1 : Below w.heap.size w w1 := (Below.refl _ _).grown hg (Nat.le_refl _) (fun k hk => by cases hk)
  have hrow : w1.ownsRow w.heap.size 9 1 (.slice (some ⟨w.heap.size, 0, none⟩) n n) n ((zs.take 0).map (fun z => Value.string (decS z)) ++ List.replicate (n - 0) (.string ByteArray.empty)) := by
    rw [show (zs.take 0).map (fun z => Value.string (decS z)) ++ List.replicate (n - 0) (Value.string ByteArray.empty) = (madeCells #[Value.string ByteArray.empty] n).toList from by rw [toList_madeCells_one]; simp]
    exact hown
  have HRow := Lib.hid hrow
  have HB1 := Lib.hid hb1
  clear hown hg hi hz0 hz1 hz2 hrow hb1
  go_wp2_with fail
  go_loopw [13] (fun i wr => ∃ k : Nat, k ≤ n ∧ i = .int .i64 k ∧ wr.ownsRow w.heap.size 9 1 (.slice (some ⟨w.heap.size, 0, none⟩) n n) n ((zs.take k).map (fun z => Value.string (decS z)) ++ List.replicate (n - k) (.string ByteArray.empty)) ∧ Below w.heap.size w wr) (fun i _ => n - (intOf i).toNat)
  case atStart => exact ⟨0, Nat.zero_le _, rfl, HRow.out, HB1.out⟩
  case round =>
    obtain ⟨k, hk, rfl, hr, hb⟩ := hrel
    by_cases hlt : k < n
    · obtain ⟨ad, z, rfl, hz, z1, z2, hc⟩ := (hw.out.below hb).at_ hlt
      have HZ := Lib.hid hz
      have HO := Lib.hid hr
      have HB := Lib.hid hb
      clear hz hr hb
      go_wp2_with fail
      refine (decimal_any z wr z1 z2 (HD.out.below HB.out)).mono ?_
      rintro e w2 ⟨rfl, hb2⟩
      have hr2 := own_below HO.out hb2
      have hf := hr2.frozenAt k
      have hco : w2.cell? ⟨w.heap.size, k, none⟩ = some (.string ByteArray.empty) := by
        rw [hr2.cellAt k (by omega)]; exact fill_get (fun z => Value.string (decS z)) (.string ByteArray.empty) zs n k hlen.out hlt
      have hst := (hr2.stored k (.string (decS z))).1
      rw [fill_step (fun z => Value.string (decS z)) (.string ByteArray.empty) zs n k z hlen.out hlt HZ.out] at hst
      have hbs : Below w.heap.size w (w2.setCell ⟨w.heap.size, k, none⟩ (.string (decS z))) := (HB.out.trans (hb2.mono HB.out.size)).setCell (p := ⟨w.heap.size, k, none⟩) (Nat.le_refl _) _
      have HS := Lib.hid hst
      have HBS := Lib.hid hbs
      clear hst hr2 hb2 hbs hc
      go_wp2_with fail
      go_roundw
      case rel => exact ⟨k + 1, by omega, by go_num, HS.out, HBS.out⟩
      case measure => simp [intOf]; omega
    · obtain rfl : n = k := by omega
      have hr2 : wr.ownsRow w.heap.size 9 1 (.slice (some ⟨w.heap.size, 0, none⟩) n n) n (zs.map (fun z => Value.string (decS z))) := by
        have e : (zs.take n).map (fun z => Value.string (decS z)) ++ List.replicate (n - n) (Value.string ByteArray.empty) = zs.map (fun z => Value.string (decS z)) := by
          rw [Nat.sub_self, List.take_of_length_le (by have := hlen.out; omega)]; simp
        rw [e] at hr
        exact hr
      have hJ := Tryd.strings_Join w.heap.size 0 n (zs.map decS) ⟨#[44, 32]⟩ wr (fun j x hj => by
          rw [Nat.zero_add, hr2.cellAt j (by have := (List.getElem?_eq_some_iff.1 hj).1; rw [List.length_map, hlen.out] at this; omega), List.getElem?_map]
          rw [List.getElem?_map] at hj
          cases hz : zs[j]? with
          | none => rw [hz] at hj; cases hj
          | some z => rw [hz] at hj; injection hj with hj; rw [← hj]; rfl) (by obtain ⟨g, e, _, hg⟩ := own_some hr2 (by omega); injection e with e; injection e with e; omega) (by rw [List.length_map, hlen.out]; omega) (by rw [List.length_map, hlen.out]; exact Nat.le_refl _)
          (by
            have e : (zs.map decS).map (·.data.toList) = zs.map Lib.itoa := by rw [List.map_map]; exact List.map_congr_left (fun z _ => decS_data z)
            have := join_len HRg.out
            rw [e]
            show (Lib.join (zs.map Lib.itoa) [44, 32]).length ≤ _
            rw [hlen.out] at this; omega)
      have e : (zs.map decS).map (·.data.toList) = zs.map Lib.itoa := by rw [List.map_map]; exact List.map_congr_left (fun z _ => decS_data z)
      rw [e, List.length_map, hlen.out] at hJ
      have HJ := Lib.hid hJ
      have HB := Lib.hid hb
      clear hJ hr hr2 e hb
      go_wp2_with fail
      refine HJ.out.mono ?_
      rintro e w3 ⟨rfl, hb3⟩
      have hBf := HB.out.trans (hb3.mono HB.out.size)
      clear hb3
      go_wp2_with fail
      go_ret
      exact ⟨rfl, hBf⟩
set_option maxRecDepth 100000 in
set_option maxHeartbeats 3200000 in
theorem implTtx_any (A : Option Addr) (n cap : Nat) (zs : List Int) (w : World) (h : IRow w A n zs) (hcap : n ≤ cap) (hd : Dr w) :
    Calls Tryd.prog 35 #[.slice A n cap] w fun e w' => e = .returned (.string (txS zs)) ∧ Below w.heap.size w w' := by
  have HV := Lib.hid (validTerms_any A n cap zs w h hcap)
  cases hv : trmB zs
  · rw [show txS zs = ⟨#[]⟩ from if_neg (by rw [hv]; decide)]
    rw [hv] at HV
    go_enter Tryd.func35, Tryd.ntmps35
    go_wp2_with fail
    refine HV.out.mono ?_
    rintro e w' ⟨rfl, rfl⟩
    go_wp2_with fail
    go_ret
    exact ⟨rfl, Below.refl _ _⟩
  · obtain ⟨t1, t2, _⟩ := trmB_iff.1 hv
    rw [h.len] at t1 t2
    rw [show txS zs = ⟨(txL zs).toArray⟩ from if_pos hv]
    rw [hv] at HV
    obtain ⟨ad, z, rfl, hz, z1, z2, hc⟩ := h.at_ (k := 0) (by omega)
    rw [addr_nil] at hc
    have hs1 : (decS z).size ≤ 21 := decS_size z1 z2
    have HZ := Lib.hid hz
    have HW := Lib.hid h
    have HD := Lib.hid hd
    have HL := Lib.hid h.len
    clear h hz hd hv
    rcases (by omega : n = 1 ∨ 2 ≤ n) with hn | hn
    · subst hn
      have HE := Lib.hid (show txL zs = 91 :: (Lib.itoa z) ++ [93] by
        match zs, HZ.out, HL.out with
        | [a], e, _ => simp at e; subst e; show 91 :: (Lib.itoa a ++ []) ++ [93] = _; rw [List.append_nil])
      go_enter Tryd.func35, Tryd.ntmps35
      go_wp2_with fail
      refine HV.out.mono ?_
      rintro e w' ⟨rfl, rfl⟩
      go_wp2_with fail
      refine (decimal_any z w z1 z2 HD.out).mono ?_
      rintro e w1 ⟨rfl, hb1⟩
      have HB := Lib.hid hb1
      clear hb1 hc
      go_wp2_with fail
      go_ret
      exact ⟨ret_str (str_ext (by rw [data_app, data_app, decS_data, data_mk, HE.out]; rfl)), HB.out⟩
    · have HJ := Lib.hid (show ∃ y r, zs = z :: y :: r by
        match zs, HZ.out, HL.out with
        | a :: y :: r, e, _ => simp at e; exact ⟨y, r, by rw [e]⟩
        | [a], _, e => simp at e; omega)
      have HT := Lib.hid (show Lib.join (zs.tail.map Lib.itoa) [44, 32] = Lib.itoa (zs.tail.headD 0) ++ tlL zs.tail.tail by
        obtain ⟨y, r, e⟩ := HJ.out
        rw [e]; exact join_tl r y)
      have hjl : (⟨(Lib.join (zs.tail.map Lib.itoa) [44, 32]).toArray⟩ : ByteArray).size ≤ 23 * 60 := by
        have := join_len (zs := zs.tail) (fun x hx => HW.out.2.2.1 x (List.mem_of_mem_tail hx))
        rw [List.length_tail, HL.out] at this
        show (Lib.join (zs.tail.map Lib.itoa) [44, 32]).toArray.size ≤ _
        rw [List.size_toArray]; omega
      have HX := Lib.hid (show txL zs = 91 :: (Lib.itoa z) ++ ([59, 32] ++ Lib.join (zs.tail.map Lib.itoa) [44, 32]) ++ [93] by
        rw [HT.out]
        obtain ⟨y, r, e⟩ := HJ.out
        rw [e]
        show 91 :: (Lib.itoa z ++ ([59, 32] ++ Lib.itoa y ++ tlL r)) ++ [93] = 91 :: Lib.itoa z ++ ([59, 32] ++ (Lib.itoa y ++ tlL r)) ++ [93]
        simp)
      have ht := HW.out.tail (show 1 ≤ n by omega) cap hcap
      have hc1 : cap ≠ 1 := by omega
      rw [if_neg hc1] at ht
      have HTl := Lib.hid (show IRow w (some ⟨ad.block, ad.off + 1, none⟩) (n - 1) zs.tail from ht)
      have HDc := Lib.hid (fun W h d => decimals_any (some ⟨ad.block, ad.off + 1, none⟩) (n - 1) (cap - 1) zs.tail W h (by omega) (by omega) d)
      have hJ2 : (⟨(Lib.join (zs.tail.map Lib.itoa) [44, 32]).toArray⟩ : ByteArray).data.toList = Lib.join (zs.tail.map Lib.itoa) [44, 32] := data_mk _
      generalize (⟨(Lib.join (zs.tail.map Lib.itoa) [44, 32]).toArray⟩ : ByteArray) = J at hjl HDc hJ2
      have HJ2 := Lib.hid hJ2
      clear ht hJ2 HT HJ
      go_enter Tryd.func35, Tryd.ntmps35
      go_wp2_with fail
      refine HV.out.mono ?_
      rintro e w' ⟨rfl, rfl⟩
      go_wp2_with fail
      refine (decimal_any z w z1 z2 HD.out).mono ?_
      rintro e w1 ⟨rfl, hb1⟩
      have HB := Lib.hid hb1
      clear hb1 hc
      go_wp2_with fail
      refine (HDc.out w1 (HTl.out.below HB.out) (HD.out.below HB.out)).mono ?_
      rintro e w2 ⟨rfl, hb2⟩
      have HB2 := Lib.hid (HB.out.trans (hb2.mono HB.out.size))
      clear hb2
      go_wp2_with fail
      go_ret
      exact ⟨ret_str (str_ext (by rw [data_app, data_app, data_app, data_app, decS_data, data_mk, HX.out, HJ2.out]; rfl)), HB2.out⟩
theorem specTtx_any (A : Option Addr) (n cap : Nat) (zs : List Int) (w : World) (h : IRow w A n zs) :
    Calls Tryd.prog 33 #[.slice A n cap] w fun e w' => e = .returned (.string (txS zs)) ∧ Below w.heap.size w w' := by
  have HV := Lib.hid (l03Ok_any A n cap zs w h)
  cases hv : trmB zs
  · rw [show txS zs = ⟨#[]⟩ from if_neg (by rw [hv]; decide)]
    rw [hv] at HV
    go_enter Tryd.func33, Tryd.ntmps33
    go_wp2_with fail
    refine HV.out.mono ?_
    rintro e w' ⟨rfl, rfl⟩
    go_wp2_with fail
    go_ret
    exact ⟨rfl, Below.refl _ _⟩
  · obtain ⟨t1, t2, _⟩ := trmB_iff.1 hv
    rw [h.len] at t1 t2
    rw [show txS zs = ⟨(txL zs).toArray⟩ from if_pos hv]
    rw [hv] at HV
    have HT := Lib.hid (l03Text_any A n cap zs w h t1 t2)
    clear h hv
    go_enter Tryd.func33, Tryd.ntmps33
    go_wp2_with fail
    refine HV.out.mono ?_
    rintro e w' ⟨rfl, rfl⟩
    go_wp2_with fail
    refine HT.out.mono ?_
    rintro e w1 ⟨rfl, hb⟩
    have HB := Lib.hid hb
    clear hb
    go_wp2_with fail
    go_ret
    exact ⟨rfl, HB.out⟩
theorem fnExactTermsText_walk (w : World) (A : Option Addr) (n cap : Nat) (zs : List Int) (h : IRow w A n zs) (hd : Dr w) :
    Calls Tryd.prog 8 #[.slice A n cap] w fun e w' => e = .returned (.bool true) ∧ Below w.heap.size w w' := by
  by_cases hn : (1048576 : Int) < n
  · go_enter Tryd.func8, Tryd.ntmps8
    go_wp2
    go_ret
    exact ⟨rfl, Below.refl _ _⟩
  · have Hr := Lib.hid h.2.2.1
    have HD := Lib.hid hd
    clear hd
    go_enter Tryd.func8, Tryd.ntmps8
    go_wp2_with fail
    refine (toInt64S_any A n cap zs _ h (by omega)).mono ?_
    rintro e w1 ⟨A1, c1, rfl, ho1, hb1⟩
    obtain ⟨hc1, hf1, hs1⟩ := keepc hb1
    have hB1 : Below w.heap.size w w1 := Below.trans (by go_grown) (hb1.mono (by first | exact Nat.le_refl _ | (simp only [World.size_alloc]; omega)))
    try simp only [World.size_alloc] at hs1
    have r1 := IRow.of_own ho1 (by omega) Hr.out
    go_wp2_with fail
    refine (specTtx_any A1 n c1 zs _ r1).mono ?_
    rintro e w2 ⟨rfl, hb2⟩
    obtain ⟨hc2, hf2, hs2⟩ := keepc hb2
    have hB2 : Below w.heap.size w w2 := hB1.trans (hb2.mono (by have := hB1.size; omega))
    go_wp2_with fail
    refine (toInt64S_any A n cap zs _ (h.below hB2) (by omega)).mono ?_
    rintro e w3 ⟨A2, c2, rfl, ho2, hb3⟩
    obtain ⟨hc3, hf3, hs3⟩ := keepc hb3
    have hB3 : Below w.heap.size w w3 := hB2.trans (hb3.mono (by have := hB2.size; omega))
    have r2 := IRow.of_own ho2 (by omega) Hr.out
    go_wp2_with fail
    refine (implTtx_any A2 n c2 zs _ r2 (own_cap ho2) (HD.out.below hB3)).mono ?_
    rintro e w4 ⟨rfl, hb4⟩
    obtain ⟨hc4, hf4, hs4⟩ := keepc hb4
    have hB4 : Below w.heap.size w w4 := hB3.trans (hb4.mono (by have := hB3.size; omega))
    replace r2 := r2.below hb4
    go_wp2_with fail
    refine (toInt64S_any A n cap zs _ (h.below hB4) (by omega)).mono ?_
    rintro e w5 ⟨A3, c3, rfl, ho3, hb5⟩
    obtain ⟨hc5, hf5, hs5⟩ := keepc hb5
    have hB5 : Below w.heap.size w w5 := hB4.trans (hb5.mono (by have := hB4.size; omega))
    have r3 := IRow.of_own ho3 (by omega) Hr.out
    replace r2 := r2.below hb5
    go_wp2_with fail
    refine (eqInt64S_same A2 n c2 A3 c3 zs _ r2 r3).mono ?_
    rintro e w6 ⟨rfl, hb6⟩
    obtain ⟨hc6, hf6, hs6⟩ := keepc hb6
    have hB6 : Below w.heap.size w w6 := hB5.trans (hb6.mono (by have := hB5.size; omega))
    go_wp2_with fail
    go_ret
    exact ⟨rfl, hB6⟩
end Go.Proofs.YtnikogholldcmaaDoor
