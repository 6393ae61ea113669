/-
  Numbers in decimal: contracts of the program's and of the reference's functions; the walk of the law FnExactDecimal.
  The table of the powers of ten holds what its initialiser lays.
-/
import Derived.Test.YtnikogholldcmaaDoorProg
import Derived.Test.YtnikogholldcmaaDoorShelf
import Derived.Test.YtnikogholldcmaaDoorMem
import Derived.Test.YtnikogholldcmaaDoorBasic
import Derived.Test.YtnikogholldcmaaDoorMarks
import Derived.Test.YtnikogholldcmaaDoorOwn
import Derived.Test.YtnikogholldcmaaDoorNumM
import Derived.Lib.AppendIntMem
import Derived.Lib.ItoaLen
import Derived.Laws.IdiomStrings
import Derived.Maps.AppendAt
import Derived.Handy
import Derived.BigQuiet
import Derived.Deep.QuietTactic
import Derived.Deep.AppendLies
namespace Go.Proofs.YtnikogholldcmaaDoor
open Go.RowKit
set_option linter.unusedVariables false
set_option linter.unusedSimpArgs false
attribute [local go_sem ↓] Go.wp_at_zero Go.wp_at_succ

theorem info_u8 : (Tryd.prog.info? 5).map (fun i => (i.zero, i.size, i.bytes)) = some (some (.int .u8 0), 1, 1) := by kernel_rfl
/-- The table of the powers of ten. -/
def Dr (w : World) : Prop := Lib.TabIs Tryd.prog w "internal/strconv.uint64pow10" .u64 Lib.pow10Tab
theorem Dr.below {w w' : World} (h : Dr w) (hb : Below w.heap.size w w') : Dr w' := Lib.tabBelow_of_tabIs h w' hb
theorem Dr.belowB {B : Nat} {w w' : World} (h : Dr w) (hb : Below w.heap.size w w') : Dr w' := h.below hb
/-- A numeral as a string. -/
def decS (n : Int) : ByteArray := ⟨(Lib.itoa n).toArray⟩
theorem decS_data (n : Int) : (decS n).data.toList = Lib.itoa n := by unfold decS; simp
theorem str_ext {a b : ByteArray} (h : a.data.toList = b.data.toList) : a = b := by
  cases a; cases b; simp at h; rw [h]

theorem decimal_any (n : Int) (w : World) (h0 : -9223372036854775808 ≤ n) (h1 : n ≤ 9223372036854775807) (hd : Dr w) :
    Calls Tryd.prog 19 #[.int .i64 n] w fun e w' => e = .returned (.string (decS n)) ∧ Below w.heap.size w w' := by
  have HF := Lib.hid (Tryd.strconv_FormatInt_10 n h0 h1 w hd)
  clear hd
  go_enter Tryd.func19, Tryd.ntmps19
  go_wp2_with fail
  refine HF.out.mono ?_
  rintro e w1 ⟨rfl, k, os, rfl⟩
  have hb := Lib.below_grow w.heap.size w (Nat.le_refl _) k os
  generalize Sort.grow (w.drewN k) os = w1 at *
  go_wp2_with fail
  go_ret
  exact ⟨rfl, hb⟩

theorem itoa_zero : Lib.itoa 0 = [48] := by
  unfold Lib.itoa
  rw [if_neg (by omega)]
  show Lib.decDigits 0 = _
  rw [dec_small (by omega)]; rfl
theorem itoa_negd {n : Int} (h : n < 0) : Lib.itoa n = 45 :: digsU n.natAbs := by
  unfold Lib.itoa
  rw [if_pos h, dec_digs _ (by omega)]
theorem itoa_posd {n : Int} (h : 0 < n) : Lib.itoa n = digsU n.natAbs := by
  unfold Lib.itoa
  rw [if_neg (by omega), dec_digs _ (by omega), show n.toNat = n.natAbs by omega]
theorem tdiv10 (k : Int) : (k.tdiv 10).natAbs = k.natAbs / 10 := by rw [Int.natAbs_tdiv]; rfl
theorem tmod10 (k : Int) : (k.tmod 10).natAbs = k.natAbs % 10 := by rw [Int.natAbs_tmod]; rfl
theorem u8_dig (d : Nat) (h : d < 10) : (UInt8.ofNat (48 + d)).toNat = 48 + d := dig_u8 h
set_option maxRecDepth 100000 in
set_option maxHeartbeats 3200000 in
theorem l01Dec_any (n : Int) (w : World) (h0 : -9223372036854775808 ≤ n) (h1 : n ≤ 9223372036854775807) :
    Calls Tryd.prog 63 #[.int .i64 n] w fun e w' => e = .returned (.string (decS n)) ∧ Below w.heap.size w w' := by
  obtain ⟨i0, hi, hz0, hz1, hz2⟩ := info_parts info_u8
  have hlen : (digsU n.natAbs).length ≤ 20 := digsU_len 20 _ (by have : (10 : Nat) ^ 20 = 100000000000000000000 := by decide
                                                                 omega)
  have HLen := Lib.hid hlen
  have HO0 := Lib.hid (World.ownsRow_made (e := 5) (size := 1) w #[] 0 (Nat.le_refl _) (by decide) rfl)
  clear hlen
  go_enter Tryd.func63, Tryd.ntmps63
  go_wp2_with fail
  go_loopw [3, 4] (fun l i wr => ∃ (k : Int) (m c g : Nat) (bs : List UInt8), l = .slice (some ⟨g, 0, none⟩) m c ∧ i = .int .i64 k ∧ -9223372036854775808 ≤ k ∧ k ≤ 9223372036854775807 ∧
    wr.ownsRow w.heap.size 5 1 (.slice (some ⟨g, 0, none⟩) m c) m (Lib.byteCells bs) ∧ Hid (digsU n.natAbs = digsU k.natAbs ++ bs) ∧ Below w.heap.size w wr) (fun _ i _ => (intOf i).natAbs)
  case atStart => exact ⟨n, 0, 0, _, [], rfl, rfl, h0, h1, by have := HO0.out; simpa [Lib.byteCells] using this, by show digsU n.natAbs = digsU n.natAbs ++ []; rw [List.append_nil], (Below.refl _ _).alloc (Nat.le_refl _) _⟩
  case round =>
    obtain ⟨k, m, c, g, bs, rfl, rfl, k0, k1, hown, HE, hbel⟩ := hrel
    have hbl : bs.length = m := by have := hown.1; rw [Lib.byteCells_length] at this; omega
    have hm20 : m ≤ 20 := by have h := HLen.out; rw [HE.out, List.length_append] at h; omega
    by_cases hk : k = 0
    · subst hk
      have he : digsU n.natAbs = bs := by have h := HE.out; rwa [show (0 : Int).natAbs = 0 from rfl, digsU_zero, List.nil_append] at h
      rcases (by omega : n = 0 ∨ n < 0 ∨ 0 < n) with hn | hn | hn
      · have hm0 : m = 0 := by rw [← hbl, ← he, hn, show (0 : Int).natAbs = 0 from rfl, digsU_zero]; rfl
        subst hm0
        have HN := Lib.hid hn
        have HB := Lib.hid hbel
        clear hn he hbl hown hbel HE
        go_wp2_with fail
        go_ret
        exact ⟨ret_str (str_ext (by rw [HN.out, decS_data, itoa_zero])), HB.out⟩
      · have hm0 : 0 < m := by
          rw [← hbl, ← he, digsU_pos (by omega)]; simp
        have hcv := run_convert_bytes_back (P := Tryd.prog) wr 55 9 5 ⟨g, 0, none⟩ c bs Tryd.underlying55 Tryd.underlying5 Tryd.underlying9 (fun j hj => by
          rw [addr_zero, hown.cellAt j (by omega)]; simp [Lib.byteCells, hj])
        rw [hbl] at hcv
        have hb20 : bs.length ≤ 20 := by omega
        have hit : Lib.itoa n = (45 :: bs) := by rw [itoa_negd hn, he]
        have HI := Lib.hid hit
        have HB := Lib.hid hbel
        clear he hbl hown hbel HE hit
        go_wp2_with fail
        go_ret
        exact ⟨ret_str (str_ext (by rw [decS_data, HI.out] <;> simp)), HB.out⟩
      · have hm0 : 0 < m := by
          rw [← hbl, ← he, digsU_pos (by omega)]; simp
        have hcv := run_convert_bytes_back (P := Tryd.prog) wr 55 9 5 ⟨g, 0, none⟩ c bs Tryd.underlying55 Tryd.underlying5 Tryd.underlying9 (fun j hj => by
          rw [addr_zero, hown.cellAt j (by omega)]; simp [Lib.byteCells, hj])
        rw [hbl] at hcv
        have hb20 : bs.length ≤ 20 := by omega
        have hit : Lib.itoa n = bs := by rw [itoa_posd hn, he]
        have HI := Lib.hid hit
        have HB := Lib.hid hbel
        clear he hbl hown hbel HE hit
        go_wp2_with fail
        go_ret
        exact ⟨ret_str (str_ext (by rw [decS_data, HI.out] <;> simp)), HB.out⟩
    · have e1 := tdiv10 k
      have e2 := tmod10 k
      have hdg : digsU k.natAbs = digsU (k.tdiv 10).natAbs ++ [UInt8.ofNat (48 + (k.tmod 10).natAbs)] := by rw [digsU_pos (by omega), e1, e2]
      have HE' := Lib.hid (show digsU n.natAbs = digsU (k.tdiv 10).natAbs ++ (UInt8.ofNat (48 + (k.tmod 10).natAbs) :: bs) by rw [HE.out, hdg, List.append_assoc]; rfl)
      have b1 : -9 ≤ k.tmod 10 := by omega
      have b2 : k.tmod 10 ≤ 9 := by omega
      have b3 : (k.tdiv 10).natAbs < k.natAbs := by omega
      have HO := Lib.hid hown
      have HB := Lib.hid hbel
      have HBL := Lib.hid hbl
      have hwr : w.heap.size ≤ wr.heap.size := hbel.size
      have B3 := Lib.hid b3
      have hkn : (k != 0) = true := bne_iff_ne.2 hk
      clear hdg e1 e2 hown hbel hbl b3 hk
      rcases (by omega : k.tmod 10 < 0 ∨ 0 ≤ k.tmod 10) with hs | hs
      · have HOn := Lib.hid (show (wr.alloc (.cells #[.int .u8 (48 + -k.tmod 10)] 5)).ownsRow w.heap.size 5 1 (.slice (some ⟨wr.heap.size, 0, none⟩) 1 1) 1 [.int .u8 (48 + -k.tmod 10)] from ⟨by simp, .inr ⟨wr.heap.size, 1, #[.int .u8 (48 + -k.tmod 10)], rfl, hwr, heap_alloc_new wr _, Nat.le_refl _, by decide, rfl, by simp⟩⟩)
        have HO2 := Lib.hid (HO.out.alloc (.cells #[.int .u8 (48 + -k.tmod 10)] 5))
        go_wp2_with (at_builtin; refine wpList_append_own_at _ rfl (.tmp 21) (.tmp 22) 55 rfl w.heap.size 5 i0 (.int .u8 0) 1 1 Tryd.underlying55 hi hz0 hz1 hz2 rfl (by decide) _ 1 [.int .u8 (48 + -k.tmod 10)] (by rfl) HOn.out ⟨g, 0, none⟩ m c (Lib.byteCells bs) (by rfl) (by rw [Lib.byteCells_length, HBL.out, Nat.mul_one]) (fun j u hu => by rw [addr_zero]; exact (HO2.out.cellAt j (by have := (List.getElem?_eq_some_iff.1 hu).1; rw [Lib.byteCells_length, HBL.out] at this; omega)).trans hu) (Lib.byteCells_one bs) (by show 1 + m ≤ 9223372036854775807; omega) (by omega) (by simp; omega) ?_; intro v' wn hown hgrow hnil hat; obtain ⟨g', cap1, rfl, hg', hlt⟩ := hown.form (by omega))
        have hcell : Value.int .u8 (48 + -k.tmod 10) = .int .u8 ((UInt8.ofNat (48 + (k.tmod 10).natAbs)).toNat : Nat) := by rw [u8_dig _ (by omega)]; congr 1; omega
        go_roundw
        case rel =>
          refine ⟨k.tdiv 10, 1 + m, cap1, g', UInt8.ofNat (48 + (k.tmod 10).natAbs) :: bs, rfl, rfl, by have := B3.out; omega, by have := B3.out; omega, ?_, HE'.out, ?_⟩
          · have h := hown
            rw [hcell] at h
            exact h
          · exact (HB.out.alloc hwr _).grown hgrow (by simp; omega) (fun k hk => by simp [Value.ownBlock] at hk; omega)
        case measure => show (k.tdiv 10).natAbs < k.natAbs; exact B3.out
      · have HOn := Lib.hid (show (wr.alloc (.cells #[.int .u8 (48 + k.tmod 10)] 5)).ownsRow w.heap.size 5 1 (.slice (some ⟨wr.heap.size, 0, none⟩) 1 1) 1 [.int .u8 (48 + k.tmod 10)] from ⟨by simp, .inr ⟨wr.heap.size, 1, #[.int .u8 (48 + k.tmod 10)], rfl, hwr, heap_alloc_new wr _, Nat.le_refl _, by decide, rfl, by simp⟩⟩)
        have HO2 := Lib.hid (HO.out.alloc (.cells #[.int .u8 (48 + k.tmod 10)] 5))
        go_wp2_with (at_builtin; refine wpList_append_own_at _ rfl (.tmp 21) (.tmp 22) 55 rfl w.heap.size 5 i0 (.int .u8 0) 1 1 Tryd.underlying55 hi hz0 hz1 hz2 rfl (by decide) _ 1 [.int .u8 (48 + k.tmod 10)] (by rfl) HOn.out ⟨g, 0, none⟩ m c (Lib.byteCells bs) (by rfl) (by rw [Lib.byteCells_length, HBL.out, Nat.mul_one]) (fun j u hu => by rw [addr_zero]; exact (HO2.out.cellAt j (by have := (List.getElem?_eq_some_iff.1 hu).1; rw [Lib.byteCells_length, HBL.out] at this; omega)).trans hu) (Lib.byteCells_one bs) (by show 1 + m ≤ 9223372036854775807; omega) (by omega) (by simp; omega) ?_; intro v' wn hown hgrow hnil hat; obtain ⟨g', cap1, rfl, hg', hlt⟩ := hown.form (by omega))
        have hcell : Value.int .u8 (48 + k.tmod 10) = .int .u8 ((UInt8.ofNat (48 + (k.tmod 10).natAbs)).toNat : Nat) := by rw [u8_dig _ (by omega)]; congr 1; omega
        go_roundw
        case rel =>
          refine ⟨k.tdiv 10, 1 + m, cap1, g', UInt8.ofNat (48 + (k.tmod 10).natAbs) :: bs, rfl, rfl, by have := B3.out; omega, by have := B3.out; omega, ?_, HE'.out, ?_⟩
          · have h := hown
            rw [hcell] at h
            exact h
          · exact (HB.out.alloc hwr _).grown hgrow (by simp; omega) (fun k hk => by simp [Value.ownBlock] at hk; omega)
        case measure => show (k.tdiv 10).natAbs < k.natAbs; exact B3.out
theorem specDecimal_any (n : Int) (w : World) (h0 : -9223372036854775808 ≤ n) (h1 : n ≤ 9223372036854775807) :
    Calls Tryd.prog 18 #[.int .i64 n] w fun e w' => e = .returned (.string (decS n)) ∧ Below w.heap.size w w' := by
  go_enter Tryd.func18, Tryd.ntmps18
  go_wp2_with fail
  refine (l01Dec_any n w h0 h1).mono ?_
  rintro e w1 ⟨rfl, hb⟩
  go_wp2_with fail
  go_ret
  exact ⟨rfl, hb⟩
theorem fnExactDecimal_walk (n : Int) (h0 : -9223372036854775808 ≤ n) (h1 : n ≤ 9223372036854775807) (w : World) (hd : Dr w) :
    Calls Tryd.prog 4 #[.int .i64 n] w fun e w' => e = .returned (.bool true) ∧ Below w.heap.size w w' := by
  have HD := Lib.hid hd
  clear hd
  go_enter Tryd.func4, Tryd.ntmps4
  go_wp2_with fail
  refine (specDecimal_any n w h0 h1).mono ?_
  rintro e w1 ⟨rfl, hb1⟩
  have HB1 := Lib.hid hb1
  clear hb1
  go_wp2_with fail
  refine (decimal_any n w1 h0 h1 (HD.out.below HB1.out)).mono ?_
  rintro e w2 ⟨rfl, hb2⟩
  have hbf := HB1.out.trans (hb2.mono HB1.out.size)
  clear hb2
  go_wp2_with fail
  go_ret
  exact ⟨rfl, hbf⟩
end Go.Proofs.YtnikogholldcmaaDoor
