/-
  Numbers read from texts in the reference: contracts; the walk of the law FnExactReadDecimal.
  The table of the powers of ten and the two errors of strconv hold what their initialisers lay.
-/
import Derived.Test.YtnikogholldcmaaDoorProg
import Derived.Test.YtnikogholldcmaaDoorMem
import Derived.Test.YtnikogholldcmaaDoorBasic
import Derived.Test.YtnikogholldcmaaDoorOwn
import Derived.Test.YtnikogholldcmaaDoorNumM
import Derived.Test.YtnikogholldcmaaDoorDec
import Derived.Test.YtnikogholldcmaaDoorRdd
import Derived.Handy
import Derived.BigQuiet
import Derived.Deep.QuietTactic
namespace Go.Proofs.YtnikogholldcmaaDoor
open Go.RowKit
set_option linter.unusedVariables false
set_option linter.unusedSimpArgs false
attribute [local go_sem ↓] Go.wp_at_zero Go.wp_at_succ

def dgB (c : Int) : Bool := decide (48 ≤ c ∧ c ≤ 57)
theorem dgB_t {c : Int} (h1 : 48 ≤ c) (h2 : c ≤ 57) : dgB c = true := decide_eq_true ⟨h1, h2⟩
theorem dgB_f {c : Int} (h : c < 48 ∨ 57 < c) : dgB c = false := decide_eq_false (by omega)
theorem l01Digit_any (c : Int) (w : World) : Calls Tryd.prog 86 #[.int .u8 c] w fun e w' => e = .returned (.bool (dgB c)) ∧ w = w' := by
  by_cases h1 : 48 ≤ c
  · by_cases h2 : c ≤ 57
    · rw [dgB_t h1 h2]
      go_enter Tryd.func86, Tryd.ntmps86
      go_wp2_with fail
      go_ret
      exact ⟨rfl, rfl⟩
    · rw [dgB_f (by omega)]
      go_enter Tryd.func86, Tryd.ntmps86
      go_wp2_with fail
      go_ret
      exact ⟨rfl, rfl⟩
  · rw [dgB_f (by omega)]
    have h2 : decide (48 ≤ c) = false := decide_eq_false h1
    go_enter Tryd.func86, Tryd.ntmps86
    go_wp2_with fail
    go_ret
    exact ⟨rfl, rfl⟩
theorem take_snocB (s : ByteArray) (k : Nat) (h : k < s.size) : s.data.toList.take (k + 1) = s.data.toList.take k ++ [s[k]] := by
  rw [List.take_succ_eq_append_getElem (by simpa using h)]; rfl
theorem len_size (s : ByteArray) : s.data.toList.length = s.size := by simp
theorem ext_one (s : ByteArray) : (s.extract 1 s.size).data.toList = s.data.toList.drop 1 := by
  simp
  rw [List.take_of_length_le (by simp)]
theorem valL_bd {l : List UInt8} (h : allD l = true) (hl : l.length ≤ 18) : valL 0 l < 1000000000000000000 := by
  have := valL_lt l 0 h
  have h3 : 10 ^ l.length ≤ 10 ^ 18 := Nat.pow_le_pow_right (by omega) hl
  have h4 : (10 : Nat) ^ 18 = 1000000000000000000 := by decide
  omega
theorem valL_bd17 {l : List UInt8} (h : allD l = true) (hl : l.length ≤ 17) : valL 0 l < 100000000000000000 := by
  have := valL_lt l 0 h
  have h3 : 10 ^ l.length ≤ 10 ^ 17 := Nat.pow_le_pow_right (by omega) hl
  have h4 : (10 : Nat) ^ 17 = 100000000000000000 := by decide
  omega
theorem allD_take {l : List UInt8} {k : Nat} {c : UInt8} (h : l[k]? = some c) (hd : isDg c = false) : allD l = false := by
  unfold allD
  rw [List.all_eq_false]
  exact ⟨c, List.mem_of_getElem? h, by rw [hd]; decide⟩
theorem dgB_u8 (c : UInt8) : dgB (c.toNat : Int) = isDg c := by
  unfold dgB isDg
  congr 1
  apply propext
  omega
theorem rd_fin {s : ByteArray} (hl : (tmL s.data.toList).length ≤ 18) : (decS (valI s.data.toList) = s ∧ rdT s = (valI s.data.toList, true)) ∨ (decS (valI s.data.toList) ≠ s ∧ rdT s = (0, false)) := by
  have h := rd_spec hl
  by_cases hq : Lib.itoa (valI s.data.toList) = s.data.toList
  · left
    rw [decide_eq_true hq] at h
    exact ⟨decS_eq.2 hq, rdT_t h⟩
  · right
    rw [decide_eq_false hq] at h
    exact ⟨fun e => hq (decS_eq.1 e), rdT_f h⟩
theorem rd_bad {s : ByteArray} (h : allD (tmL s.data.toList) = false) : rdT s = (0, false) := rdT_f (by
  cases hb : rdB s.data.toList
  · rfl
  · have := (rdB_form hb).2.2.1
    rw [h] at this; cases this)
theorem rd_none {s : ByteArray} (h : tmL s.data.toList = [] ∨ 18 < (tmL s.data.toList).length) : rdT s = (0, false) := rdT_f (by
  cases hb : rdB s.data.toList
  · rfl
  · rcases h with h | h
    · exact absurd h (rdB_form hb).2.2.2.1
    · have := (rdB_iff.1 hb).1; omega)
theorem ng_head {s : ByteArray} (h0 : 0 < s.size) : ((s[0].toNat : Int) == 45) = ngL s.data.toList := by
  have : s.data.toList[0]? = some s[0] := by rw [List.getElem?_eq_getElem (by rw [len_size]; exact h0)]; rfl
  cases hsl : s.data.toList with
  | nil => rw [hsl] at this; cases this
  | cons c r =>
    rw [hsl] at this
    simp at this
    rw [← this]
    unfold ngL
    rw [Bool.eq_iff_iff, beq_iff_eq, decide_eq_true_iff]
    omega
theorem tm_ng {s : ByteArray} (h : ngL s.data.toList = true) : tmL s.data.toList = s.data.toList.drop 1 ∧ 0 < s.size := by
  cases hsl : s.data.toList with
  | nil => rw [hsl] at h; cases h
  | cons c r =>
    rw [hsl] at h
    refine ⟨if_pos (of_decide_eq_true (h : decide _ = true)), ?_⟩
    rw [← len_size, hsl]; simp
theorem tm_ps {s : ByteArray} (h : ngL s.data.toList = false) : tmL s.data.toList = s.data.toList := by
  cases hsl : s.data.toList with
  | nil => rfl
  | cons c r =>
    rw [hsl] at h
    exact if_neg (of_decide_eq_false (h : decide _ = false))
set_option maxRecDepth 100000 in
set_option maxHeartbeats 3200000 in
theorem l01Number_any (s : ByteArray) (w : World) (hs : s.size ≤ 1048576) :
    Calls Tryd.prog 55 #[.string s] w fun e w' => e = .returned (.tuple #[.int .i64 (rdT s).1, .bool (rdT s).2]) ∧ Below w.heap.size w w' := by
  by_cases hz : s.size = 0
  · have hse : s.toList = [] := by rw [ByteArray.toList_eq]; exact List.eq_nil_of_length_eq_zero (by rw [len_size]; exact hz)
    rw [rd_none (.inl (by rw [← ByteArray.toList_eq, hse]; rfl))]
    go_enter Tryd.func55, Tryd.ntmps55
    go_wp2_with fail
    go_ret2
    exact ⟨rfl, Below.refl _ _⟩
  · have h0 : 0 < s.size := by omega
    have hse : (s.toList == []) = false := by rw [ByteArray.toList_eq]; exact beq_eq_false_iff_ne.2 (fun e => hz (by rw [← len_size, e]; rfl))
    have hhd := ng_head h0
    clear hz
    cases hng : ngL s.data.toList
    · have htm : (s).data.toList = tmL s.data.toList := by first | exact (tm_ps hng).symm | (rw [(tm_ng hng).1]; exact ext_one s)
      have hlt : (s).data.toList.length = s.size := by first | exact len_size s | rw [ext_one, List.length_drop, len_size]
      rw [hng] at hhd
      by_cases hl18 : s.size ≤ 18
      · by_cases hl1 : 1 ≤ s.size
        · have hval : valI s.data.toList = if false = true then -(valL 0 (s).data.toList : Int) else (valL 0 (s).data.toList : Int) := by unfold valI; rw [← htm, hng]; try simp
          have hfin := rd_fin (s := s) (by rw [← htm, hlt]; exact hl18)
          have HBad := Lib.hid (fun h => rd_bad (s := s) h)
          rw [← htm] at HBad
          obtain ⟨R, hR⟩ : ∃ R, rdT s = R := ⟨_, rfl⟩
          rw [hR] at hfin HBad ⊢
          have HF := Lib.hid hfin
          have HV := Lib.hid hval
          have HB := Lib.hid HBad
          have HLt := Lib.hid hlt
          have HG := Lib.hid hng
          clear hfin hval hlt htm hR HBad hng
          go_enter Tryd.func55, Tryd.ntmps55
          go_wp2_with fail
          have ht1 : (s).size = s.size := (len_size _).symm.trans HLt.out
          have ht2 : (s).size ≤ 18 := by rw [ht1]; exact hl18
          have ht3 : 1 ≤ (s).size := by rw [ht1]; exact hl1
          try have ht4 : (s).size < s.size := by omega
          clear ht1 HLt
          skip
          go_loop [5, 6] (fun a i => ∃ (k : Nat) (x : Int), k ≤ (s).size ∧ i = .int .i64 k ∧ a = .int .i64 x ∧ 0 ≤ x ∧ x ≤ 999999999999999999 ∧ Hid (allD ((s).data.toList.take k) = true ∧ x = (valL 0 ((s).data.toList.take k) : Nat))) (fun _ i => (s).size - (intOf i).toNat)
          case atStart => exact ⟨0, 0, Nat.zero_le _, rfl, rfl, by omega, by omega, by show _ ∧ _; exact ⟨rfl, rfl⟩⟩
          case round =>
            obtain ⟨k, x, hk, rfl, rfl, x0, x1, HA⟩ := hrel
            by_cases hkt : k < (s).size
            · have hsn := take_snocB s k hkt
              have hgk : (s).data.toList[k]? = some (s)[k] := by rw [List.getElem?_eq_getElem (by rw [len_size]; exact hkt)]; rfl
              have HC := Lib.hid (fun W => l01Digit_any ((s)[k].toNat : Int) W)
              rw [dgB_u8] at HC
              cases hdg : isDg (s)[k]
              · rw [hdg] at HC
                have hbad := HB.out (allD_take hgk hdg)
                obtain rfl := hbad
                clear hgk hsn hdg HB HF
                go_wp2_with fail
                refine (HC.out _).mono ?_
                rintro e w' ⟨rfl, rfl⟩
                go_wp2_with fail
                go_ret2
                exact ⟨rfl, Below.refl _ _⟩
              · rw [hdg] at HC
                have hd2 := of_decide_eq_true (hdg : decide _ = true)
                obtain ⟨hd3, hd4⟩ := hd2
                have hx17 : x ≤ 99999999999999999 := by
                  have := valL_bd17 HA.out.1 (by rw [List.length_take, len_size]; omega)
                  have := HA.out.2
                  omega
                have HN := Lib.hid (show allD ((s).data.toList.take (k + 1)) = true ∧ 10 * x + (((s)[k].toNat : Int) - 48) = (valL 0 ((s).data.toList.take (k + 1)) : Nat) by
                  refine ⟨by rw [hsn, allD_app, HA.out.1, allD_cons, hdg]; rfl, ?_⟩
                  have e : valL 0 ((s).data.toList.take (k + 1)) = valL 0 ((s).data.toList.take k) * 10 + ((s)[k].toNat - 48) := by rw [hsn, valL_app]; rfl
                  have := HA.out.2
                  omega)
                clear hgk hsn hdg HB HF
                have hd5 : (48 : Int) ≤ ((s)[k].toNat : Int) := by omega
                have hd6 : ((s)[k].toNat : Int) ≤ 57 := by omega
                go_wp2_with fail
                refine (HC.out _).mono ?_
                rintro e w' ⟨rfl, rfl⟩
                go_wp2_with fail
                go_round
                case rel => exact ⟨k + 1, 10 * x + (((s)[k].toNat : Int) - 48), by omega, by go_num, rfl, by omega, by omega, HN.out⟩
                case measure => simp [intOf]; omega
            · have hkt2 : (s).size ≤ k := by omega
              have HV2 := Lib.hid (show valI s.data.toList = if false = true then -x else x by
                have h := HA.out.2
                rw [List.take_of_length_le (by rw [len_size]; exact hkt2)] at h
                have e := HV.out
                rw [h]
                simpa using e)
              have hff := HF.out
              rw [HV2.out] at hff
              simp only [if_true, if_false, Bool.false_eq_true] at hff
              clear HB HF HV HA HV2
              rcases hff with ⟨hq, hr⟩ | ⟨hq, hr⟩
              all_goals
                subst hr
                have htl := hq
                first | replace htl := tl_t hq | replace htl := tl_f hq
                clear hq
                go_wp2_with fail
                refine (l01Dec_any _ _ (by omega) (by omega)).mono ?_
                rintro e w1 ⟨rfl, hb⟩
                have HBw := Lib.hid hb
                clear hb
                go_wp2_with fail
                go_ret2
                exact ⟨rfl, HBw.out⟩
        · first
            | (exfalso; omega)
            | (rw [rd_none (.inl (List.eq_nil_of_length_eq_zero (by rw [← htm, hlt]; omega)))]
               clear htm hlt hng
               go_enter Tryd.func55, Tryd.ntmps55
               go_wp2_with fail
               go_ret2
               exact ⟨rfl, Below.refl _ _⟩)
      · rw [rd_none (.inr (by rw [← htm, hlt]; omega))]
        clear htm hlt hng
        go_enter Tryd.func55, Tryd.ntmps55
        go_wp2_with fail
        go_ret2
        exact ⟨rfl, Below.refl _ _⟩
    · have htm : ((s.extract 1 s.size)).data.toList = tmL s.data.toList := by first | exact (tm_ps hng).symm | (rw [(tm_ng hng).1]; exact ext_one s)
      have hlt : ((s.extract 1 s.size)).data.toList.length = (s.size - 1) := by first | exact len_size s | rw [ext_one, List.length_drop, len_size]
      rw [hng] at hhd
      by_cases hl18 : (s.size - 1) ≤ 18
      · by_cases hl1 : 1 ≤ (s.size - 1)
        · have hval : valI s.data.toList = if true = true then -(valL 0 ((s.extract 1 s.size)).data.toList : Int) else (valL 0 ((s.extract 1 s.size)).data.toList : Int) := by unfold valI; rw [← htm, hng]; try simp
          have hfin := rd_fin (s := s) (by rw [← htm, hlt]; exact hl18)
          have HBad := Lib.hid (fun h => rd_bad (s := s) h)
          rw [← htm] at HBad
          obtain ⟨R, hR⟩ : ∃ R, rdT s = R := ⟨_, rfl⟩
          rw [hR] at hfin HBad ⊢
          have HF := Lib.hid hfin
          have HV := Lib.hid hval
          have HB := Lib.hid HBad
          have HLt := Lib.hid hlt
          have HG := Lib.hid hng
          clear hfin hval hlt htm hR HBad hng
          go_enter Tryd.func55, Tryd.ntmps55
          go_wp2_with fail
          have ht1 : ((s.extract 1 s.size)).size = (s.size - 1) := (len_size _).symm.trans HLt.out
          have ht2 : ((s.extract 1 s.size)).size ≤ 18 := by rw [ht1]; exact hl18
          have ht3 : 1 ≤ ((s.extract 1 s.size)).size := by rw [ht1]; exact hl1
          try have ht4 : ((s.extract 1 s.size)).size < s.size := by omega
          clear ht1 HLt
          generalize s.extract 1 s.size = t at *
          go_loop [5, 6] (fun a i => ∃ (k : Nat) (x : Int), k ≤ (t).size ∧ i = .int .i64 k ∧ a = .int .i64 x ∧ 0 ≤ x ∧ x ≤ 999999999999999999 ∧ Hid (allD ((t).data.toList.take k) = true ∧ x = (valL 0 ((t).data.toList.take k) : Nat))) (fun _ i => (t).size - (intOf i).toNat)
          case atStart => exact ⟨0, 0, Nat.zero_le _, rfl, rfl, by omega, by omega, by show _ ∧ _; exact ⟨rfl, rfl⟩⟩
          case round =>
            obtain ⟨k, x, hk, rfl, rfl, x0, x1, HA⟩ := hrel
            by_cases hkt : k < (t).size
            · have hsn := take_snocB t k hkt
              have hgk : (t).data.toList[k]? = some (t)[k] := by rw [List.getElem?_eq_getElem (by rw [len_size]; exact hkt)]; rfl
              have HC := Lib.hid (fun W => l01Digit_any ((t)[k].toNat : Int) W)
              rw [dgB_u8] at HC
              cases hdg : isDg (t)[k]
              · rw [hdg] at HC
                have hbad := HB.out (allD_take hgk hdg)
                obtain rfl := hbad
                clear hgk hsn hdg HB HF
                go_wp2_with fail
                refine (HC.out _).mono ?_
                rintro e w' ⟨rfl, rfl⟩
                go_wp2_with fail
                go_ret2
                exact ⟨rfl, Below.refl _ _⟩
              · rw [hdg] at HC
                have hd2 := of_decide_eq_true (hdg : decide _ = true)
                obtain ⟨hd3, hd4⟩ := hd2
                have hx17 : x ≤ 99999999999999999 := by
                  have := valL_bd17 HA.out.1 (by rw [List.length_take, len_size]; omega)
                  have := HA.out.2
                  omega
                have HN := Lib.hid (show allD ((t).data.toList.take (k + 1)) = true ∧ 10 * x + (((t)[k].toNat : Int) - 48) = (valL 0 ((t).data.toList.take (k + 1)) : Nat) by
                  refine ⟨by rw [hsn, allD_app, HA.out.1, allD_cons, hdg]; rfl, ?_⟩
                  have e : valL 0 ((t).data.toList.take (k + 1)) = valL 0 ((t).data.toList.take k) * 10 + ((t)[k].toNat - 48) := by rw [hsn, valL_app]; rfl
                  have := HA.out.2
                  omega)
                clear hgk hsn hdg HB HF
                have hd5 : (48 : Int) ≤ ((t)[k].toNat : Int) := by omega
                have hd6 : ((t)[k].toNat : Int) ≤ 57 := by omega
                go_wp2_with fail
                refine (HC.out _).mono ?_
                rintro e w' ⟨rfl, rfl⟩
                go_wp2_with fail
                go_round
                case rel => exact ⟨k + 1, 10 * x + (((t)[k].toNat : Int) - 48), by omega, by go_num, rfl, by omega, by omega, HN.out⟩
                case measure => simp [intOf]; omega
            · have hkt2 : (t).size ≤ k := by omega
              have HV2 := Lib.hid (show valI s.data.toList = if true = true then -x else x by
                have h := HA.out.2
                rw [List.take_of_length_le (by rw [len_size]; exact hkt2)] at h
                have e := HV.out
                rw [h]
                simpa using e)
              have hff := HF.out
              rw [HV2.out] at hff
              simp only [if_true, if_false, Bool.false_eq_true] at hff
              clear HB HF HV HA HV2
              rcases hff with ⟨hq, hr⟩ | ⟨hq, hr⟩
              all_goals
                subst hr
                have htl := hq
                first | replace htl := tl_t hq | replace htl := tl_f hq
                clear hq
                go_wp2_with fail
                refine (l01Dec_any _ _ (by omega) (by omega)).mono ?_
                rintro e w1 ⟨rfl, hb⟩
                have HBw := Lib.hid hb
                clear hb
                go_wp2_with fail
                go_ret2
                exact ⟨rfl, HBw.out⟩
        · first
            | (exfalso; omega)
            | (rw [rd_none (.inl (List.eq_nil_of_length_eq_zero (by rw [← htm, hlt]; omega)))]
               clear htm hlt hng
               go_enter Tryd.func55, Tryd.ntmps55
               go_wp2_with fail
               go_ret2
               exact ⟨rfl, Below.refl _ _⟩)
      · rw [rd_none (.inr (by rw [← htm, hlt]; omega))]
        clear htm hlt hng
        go_enter Tryd.func55, Tryd.ntmps55
        go_wp2_with fail
        go_ret2
        exact ⟨rfl, Below.refl _ _⟩
theorem specReadDecimal_any (s : ByteArray) (w : World) (hs : s.size ≤ 1048576) :
    Calls Tryd.prog 36 #[.string s] w fun e w' => e = .returned (.tuple #[.int .i64 (rdT s).1, .bool (rdT s).2]) ∧ Below w.heap.size w w' := by
  have HC := Lib.hid (l01Number_any s w hs)
  generalize rdT s = R at *
  go_enter Tryd.func36, Tryd.ntmps36
  go_wp2_with fail
  refine HC.out.mono ?_
  rintro e w1 ⟨rfl, hb⟩
  have HB := Lib.hid hb
  clear hb
  go_wp2_with fail
  go_ret2
  exact ⟨rfl, HB.out⟩
theorem fnExactReadDecimal_walk (s : ByteArray) (hsz : s.size ≤ 9223372036854775807) (w : World) (hd : Dr w) (he : Er w) :
    Calls Tryd.prog 9 #[.string s] w fun e w' => e = .returned (.bool true) ∧ Below w.heap.size w w' := by
  by_cases hs : s.size ≤ 1048576
  · have HC := Lib.hid (specReadDecimal_any s w hs)
    have HI := Lib.hid (fun W d e => readDecimal_any s W hs d e)
    generalize rdT s = R at *
    have HD := Lib.hid hd
    have HE := Lib.hid he
    clear hd he
    go_enter Tryd.func9, Tryd.ntmps9
    go_wp2_with fail
    refine HC.out.mono ?_
    rintro e w1 ⟨rfl, hb⟩
    have HB := Lib.hid hb
    clear hb
    go_wp2_with fail
    refine (HI.out _ (HD.out.below HB.out) (HE.out.below HB.out)).mono ?_
    rintro e w2 ⟨rfl, hb⟩
    have hB2 := HB.out.trans (hb.mono HB.out.size)
    clear hb
    go_wp2_with fail
    go_ret
    exact ⟨by simp, hB2⟩
  · have hs' : 1048576 < s.size := by omega
    clear hs hd he
    go_enter Tryd.func9, Tryd.ntmps9
    go_wp2_with fail
    go_ret
    exact ⟨rfl, Below.refl _ _⟩
end Go.Proofs.YtnikogholldcmaaDoor
