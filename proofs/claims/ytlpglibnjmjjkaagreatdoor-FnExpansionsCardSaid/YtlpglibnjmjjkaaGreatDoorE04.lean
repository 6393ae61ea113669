/-
  Numbers read from texts in the reference: contracts; the walk of the law FnExactReadDecimal.
  Texts cut at a byte: plain laws.
  Texts cut at a byte in the reference; lists of texts: contracts.
  Contracts of the tests of lists of terms with signs; the walk of the law FnExactValidSigned.
  The texts of terms with signs: plain laws.
  The texts of terms with signs: contracts of the program's and of the reference's functions; the walk of the law FnExactSignedText.
  Terms with signs read from texts: plain laws.
  Drawn terms: contracts of the reference's l03Draw and A2Terms.
  The words of a text: contracts of the program's and of the reference's functions.
  Conditions: those of the law's own text, and that the package-level variables hold what the program's text lays in them.
-/
import Derived.Test.YtlpglibnjmjjkaaGreatDoorProg
import Derived.Test.YtlpglibnjmjjkaaGreatDoorE01
import Derived.Handy
import Derived.BigQuiet
import Derived.Deep.QuietTactic
import Derived.Lib.SplitLaws
import Derived.Test.YtlpglibnjmjjkaaGreatDoorShelf
import Derived.Test.YtlpglibnjmjjkaaGreatDoorE03
import Derived.Deep.AppendLies
import Derived.Test.YtlpglibnjmjjkaaGreatDoorE02
namespace Go.Proofs.YtlpglibnjmjjkaaGreatDoor
open Go.RowKit
set_option linter.unusedVariables false
set_option linter.unusedSimpArgs false
attribute [local go_sem ↓] Go.wp_at_zero Go.wp_at_succ

def dgB (c : Int) : Bool := decide (48 ≤ c ∧ c ≤ 57)
theorem dgB_t {c : Int} (h1 : 48 ≤ c) (h2 : c ≤ 57) : dgB c = true := decide_eq_true ⟨h1, h2⟩
theorem dgB_f {c : Int} (h : c < 48 ∨ 57 < c) : dgB c = false := decide_eq_false (by omega)
theorem l01Digit_any (c : Int) (w : World) : Calls Tryz.prog 110 #[.int .u8 c] w fun e w' => e = .returned (.bool (dgB c)) ∧ w = w' := by
  by_cases h1 : 48 ≤ c
  · by_cases h2 : c ≤ 57
    · rw [dgB_t h1 h2]
      go_enter Tryz.func110, Tryz.ntmps110
      go_wp2_with fail
      go_ret
      exact ⟨rfl, rfl⟩
    · rw [dgB_f (by omega)]
      go_enter Tryz.func110, Tryz.ntmps110
      go_wp2_with fail
      go_ret
      exact ⟨rfl, rfl⟩
  · rw [dgB_f (by omega)]
    have h2 : decide (48 ≤ c) = false := decide_eq_false h1
    go_enter Tryz.func110, Tryz.ntmps110
    go_wp2_with fail
    go_ret
    exact ⟨rfl, rfl⟩
theorem take_snocB (s : ByteArray) (k : Nat) (h : k < s.size) : s.data.toList.take (k + 1) = s.data.toList.take k ++ [s[k]] := by
  rw [List.take_succ_eq_append_getElem (by simpa using h)]; rfl
theorem len_size (s : ByteArray) : s.data.toList.length = s.size := by simp
theorem ext_one (s : ByteArray) : (s.extract 1 s.size).data.toList = s.data.toList.drop 1 := by
  simp
  rw [List.take_of_length_le (by simp)]
theorem valL_bd {l : List UInt8} (h : allD l = true) (hl : l.length ≤ 18) : valL 0 l < 1000000000000000000 := by
  have := valL_lt l 0 h
  have h3 : 10 ^ l.length ≤ 10 ^ 18 := Nat.pow_le_pow_right (by omega) hl
  have h4 : (10 : Nat) ^ 18 = 1000000000000000000 := by decide
  omega
theorem valL_bd17 {l : List UInt8} (h : allD l = true) (hl : l.length ≤ 17) : valL 0 l < 100000000000000000 := by
  have := valL_lt l 0 h
  have h3 : 10 ^ l.length ≤ 10 ^ 17 := Nat.pow_le_pow_right (by omega) hl
  have h4 : (10 : Nat) ^ 17 = 100000000000000000 := by decide
  omega
theorem allD_take {l : List UInt8} {k : Nat} {c : UInt8} (h : l[k]? = some c) (hd : isDg c = false) : allD l = false := by
  unfold allD
  rw [List.all_eq_false]
  exact ⟨c, List.mem_of_getElem? h, by rw [hd]; decide⟩
theorem dgB_u8 (c : UInt8) : dgB (c.toNat : Int) = isDg c := by
  unfold dgB isDg
  congr 1
  apply propext
  omega
theorem rd_fin {s : ByteArray} (hl : (tmL s.data.toList).length ≤ 18) : (decS (valI s.data.toList) = s ∧ rdT s = (valI s.data.toList, true)) ∨ (decS (valI s.data.toList) ≠ s ∧ rdT s = (0, false)) := by
  have h := rd_spec hl
  by_cases hq : Lib.itoa (valI s.data.toList) = s.data.toList
  · left
    rw [decide_eq_true hq] at h
    exact ⟨decS_eq.2 hq, rdT_t h⟩
  · right
    rw [decide_eq_false hq] at h
    exact ⟨fun e => hq (decS_eq.1 e), rdT_f h⟩
theorem rd_bad {s : ByteArray} (h : allD (tmL s.data.toList) = false) : rdT s = (0, false) := rdT_f (by
  cases hb : rdB s.data.toList
  · rfl
  · have := (rdB_form hb).2.2.1
    rw [h] at this; cases this)
theorem rd_none {s : ByteArray} (h : tmL s.data.toList = [] ∨ 18 < (tmL s.data.toList).length) : rdT s = (0, false) := rdT_f (by
  cases hb : rdB s.data.toList
  · rfl
  · rcases h with h | h
    · exact absurd h (rdB_form hb).2.2.2.1
    · have := (rdB_iff.1 hb).1; omega)
theorem ng_head {s : ByteArray} (h0 : 0 < s.size) : ((s[0].toNat : Int) == 45) = ngL s.data.toList := by
  have : s.data.toList[0]? = some s[0] := by rw [List.getElem?_eq_getElem (by rw [len_size]; exact h0)]; rfl
  cases hsl : s.data.toList with
  | nil => rw [hsl] at this; cases this
  | cons c r =>
    rw [hsl] at this
    simp at this
    rw [← this]
    unfold ngL
    rw [Bool.eq_iff_iff, beq_iff_eq, decide_eq_true_iff]
    omega
theorem tm_ng {s : ByteArray} (h : ngL s.data.toList = true) : tmL s.data.toList = s.data.toList.drop 1 ∧ 0 < s.size := by
  cases hsl : s.data.toList with
  | nil => rw [hsl] at h; cases h
  | cons c r =>
    rw [hsl] at h
    refine ⟨if_pos (of_decide_eq_true (h : decide _ = true)), ?_⟩
    rw [← len_size, hsl]; simp
theorem tm_ps {s : ByteArray} (h : ngL s.data.toList = false) : tmL s.data.toList = s.data.toList := by
  cases hsl : s.data.toList with
  | nil => rfl
  | cons c r =>
    rw [hsl] at h
    exact if_neg (of_decide_eq_false (h : decide _ = false))
set_option maxRecDepth 100000 in
set_option maxHeartbeats 3200000 in
theorem l01Number_any (s : ByteArray) (w : World) (hs : s.size ≤ 1048576) :
    Calls Tryz.prog 75 #[.string s] w fun e w' => e = .returned (.tuple #[.int .i64 (rdT s).1, .bool (rdT s).2]) ∧ Below w.heap.size w w' := by
  by_cases hz : s.size = 0
  · have hse : s.toList = [] := by rw [ByteArray.toList_eq]; exact List.eq_nil_of_length_eq_zero (by rw [len_size]; exact hz)
    rw [rd_none (.inl (by rw [← ByteArray.toList_eq, hse]; rfl))]
    go_enter Tryz.func75, Tryz.ntmps75
    go_wp2_with fail
    go_ret2
    exact ⟨rfl, Below.refl _ _⟩
  · have h0 : 0 < s.size := by omega
    have hse : (s.toList == []) = false := by rw [ByteArray.toList_eq]; exact beq_eq_false_iff_ne.2 (fun e => hz (by rw [← len_size, e]; rfl))
    have hhd := ng_head h0
    clear hz
    cases hng : ngL s.data.toList
    · have htm : (s).data.toList = tmL s.data.toList := by first | exact (tm_ps hng).symm | (rw [(tm_ng hng).1]; exact ext_one s)
      have hlt : (s).data.toList.length = s.size := by first | exact len_size s | rw [ext_one, List.length_drop, len_size]
      rw [hng] at hhd
      by_cases hl18 : s.size ≤ 18
      · by_cases hl1 : 1 ≤ s.size
        · have hval : valI s.data.toList = if false = true then -(valL 0 (s).data.toList : Int) else (valL 0 (s).data.toList : Int) := by unfold valI; rw [← htm, hng]; try simp
          have hfin := rd_fin (s := s) (by rw [← htm, hlt]; exact hl18)
          have HBad := Lib.hid (fun h => rd_bad (s := s) h)
          rw [← htm] at HBad
          obtain ⟨R, hR⟩ : ∃ R, rdT s = R := ⟨_, rfl⟩
          rw [hR] at hfin HBad ⊢
          have HF := Lib.hid hfin
          have HV := Lib.hid hval
          have HB := Lib.hid HBad
          have HLt := Lib.hid hlt
          have HG := Lib.hid hng
          clear hfin hval hlt htm hR HBad hng
          go_enter Tryz.func75, Tryz.ntmps75
          go_wp2_with fail
          have ht1 : (s).size = s.size := (len_size _).symm.trans HLt.out
          have ht2 : (s).size ≤ 18 := by rw [ht1]; exact hl18
          have ht3 : 1 ≤ (s).size := by rw [ht1]; exact hl1
          try have ht4 : (s).size < s.size := by omega
          clear ht1 HLt
          skip
          go_loop [5, 6] (fun a i => ∃ (k : Nat) (x : Int), k ≤ (s).size ∧ i = .int .i64 k ∧ a = .int .i64 x ∧ 0 ≤ x ∧ x ≤ 999999999999999999 ∧ Hid (allD ((s).data.toList.take k) = true ∧ x = (valL 0 ((s).data.toList.take k) : Nat))) (fun _ i => (s).size - (intOf i).toNat)
          case atStart => exact ⟨0, 0, Nat.zero_le _, rfl, rfl, by omega, by omega, by show _ ∧ _; exact ⟨rfl, rfl⟩⟩
          case round =>
            obtain ⟨k, x, hk, rfl, rfl, x0, x1, HA⟩ := hrel
            by_cases hkt : k < (s).size
            · have hsn := take_snocB s k hkt
              have hgk : (s).data.toList[k]? = some (s)[k] := by rw [List.getElem?_eq_getElem (by rw [len_size]; exact hkt)]; rfl
              have HC := Lib.hid (fun W => l01Digit_any ((s)[k].toNat : Int) W)
              rw [dgB_u8] at HC
              cases hdg : isDg (s)[k]
              · rw [hdg] at HC
                have hbad := HB.out (allD_take hgk hdg)
                obtain rfl := hbad
                clear hgk hsn hdg HB HF
                go_wp2_with fail
                refine (HC.out _).mono ?_
                rintro e w' ⟨rfl, rfl⟩
                go_wp2_with fail
                go_ret2
                exact ⟨rfl, Below.refl _ _⟩
              · rw [hdg] at HC
                have hd2 := of_decide_eq_true (hdg : decide _ = true)
                obtain ⟨hd3, hd4⟩ := hd2
                have hx17 : x ≤ 99999999999999999 := by
                  have := valL_bd17 HA.out.1 (by rw [List.length_take, len_size]; omega)
                  have := HA.out.2
                  omega
                have HN := Lib.hid (show allD ((s).data.toList.take (k + 1)) = true ∧ 10 * x + (((s)[k].toNat : Int) - 48) = (valL 0 ((s).data.toList.take (k + 1)) : Nat) by
                  refine ⟨by rw [hsn, allD_app, HA.out.1, allD_cons, hdg]; rfl, ?_⟩
                  have e : valL 0 ((s).data.toList.take (k + 1)) = valL 0 ((s).data.toList.take k) * 10 + ((s)[k].toNat - 48) := by rw [hsn, valL_app]; rfl
                  have := HA.out.2
                  omega)
                clear hgk hsn hdg HB HF
                have hd5 : (48 : Int) ≤ ((s)[k].toNat : Int) := by omega
                have hd6 : ((s)[k].toNat : Int) ≤ 57 := by omega
                go_wp2_with fail
                refine (HC.out _).mono ?_
                rintro e w' ⟨rfl, rfl⟩
                go_wp2_with fail
                go_round
                case rel => exact ⟨k + 1, 10 * x + (((s)[k].toNat : Int) - 48), by omega, by go_num, rfl, by omega, by omega, HN.out⟩
                case measure => simp [intOf]; omega
            · have hkt2 : (s).size ≤ k := by omega
              have HV2 := Lib.hid (show valI s.data.toList = if false = true then -x else x by
                have h := HA.out.2
                rw [List.take_of_length_le (by rw [len_size]; exact hkt2)] at h
                have e := HV.out
                rw [h]
                simpa using e)
              have hff := HF.out
              rw [HV2.out] at hff
              simp only [if_true, if_false, Bool.false_eq_true] at hff
              clear HB HF HV HA HV2
              rcases hff with ⟨hq, hr⟩ | ⟨hq, hr⟩
              all_goals
                subst hr
                have htl := hq
                first | replace htl := tl_t hq | replace htl := tl_f hq
                clear hq
                go_wp2_with fail
                refine (l01Dec_any _ _ (by omega) (by omega)).mono ?_
                rintro e w1 ⟨rfl, hb⟩
                have HBw := Lib.hid hb
                clear hb
                go_wp2_with fail
                go_ret2
                exact ⟨rfl, HBw.out⟩
        · first
            | (exfalso; omega)
            | (rw [rd_none (.inl (List.eq_nil_of_length_eq_zero (by rw [← htm, hlt]; omega)))]
               clear htm hlt hng
               go_enter Tryz.func75, Tryz.ntmps75
               go_wp2_with fail
               go_ret2
               exact ⟨rfl, Below.refl _ _⟩)
      · rw [rd_none (.inr (by rw [← htm, hlt]; omega))]
        clear htm hlt hng
        go_enter Tryz.func75, Tryz.ntmps75
        go_wp2_with fail
        go_ret2
        exact ⟨rfl, Below.refl _ _⟩
    · have htm : ((s.extract 1 s.size)).data.toList = tmL s.data.toList := by first | exact (tm_ps hng).symm | (rw [(tm_ng hng).1]; exact ext_one s)
      have hlt : ((s.extract 1 s.size)).data.toList.length = (s.size - 1) := by first | exact len_size s | rw [ext_one, List.length_drop, len_size]
      rw [hng] at hhd
      by_cases hl18 : (s.size - 1) ≤ 18
      · by_cases hl1 : 1 ≤ (s.size - 1)
        · have hval : valI s.data.toList = if true = true then -(valL 0 ((s.extract 1 s.size)).data.toList : Int) else (valL 0 ((s.extract 1 s.size)).data.toList : Int) := by unfold valI; rw [← htm, hng]; try simp
          have hfin := rd_fin (s := s) (by rw [← htm, hlt]; exact hl18)
          have HBad := Lib.hid (fun h => rd_bad (s := s) h)
          rw [← htm] at HBad
          obtain ⟨R, hR⟩ : ∃ R, rdT s = R := ⟨_, rfl⟩
          rw [hR] at hfin HBad ⊢
          have HF := Lib.hid hfin
          have HV := Lib.hid hval
          have HB := Lib.hid HBad
          have HLt := Lib.hid hlt
          have HG := Lib.hid hng
          clear hfin hval hlt htm hR HBad hng
          go_enter Tryz.func75, Tryz.ntmps75
          go_wp2_with fail
          have ht1 : ((s.extract 1 s.size)).size = (s.size - 1) := (len_size _).symm.trans HLt.out
          have ht2 : ((s.extract 1 s.size)).size ≤ 18 := by rw [ht1]; exact hl18
          have ht3 : 1 ≤ ((s.extract 1 s.size)).size := by rw [ht1]; exact hl1
          try have ht4 : ((s.extract 1 s.size)).size < s.size := by omega
          clear ht1 HLt
          generalize s.extract 1 s.size = t at *
          go_loop [5, 6] (fun a i => ∃ (k : Nat) (x : Int), k ≤ (t).size ∧ i = .int .i64 k ∧ a = .int .i64 x ∧ 0 ≤ x ∧ x ≤ 999999999999999999 ∧ Hid (allD ((t).data.toList.take k) = true ∧ x = (valL 0 ((t).data.toList.take k) : Nat))) (fun _ i => (t).size - (intOf i).toNat)
          case atStart => exact ⟨0, 0, Nat.zero_le _, rfl, rfl, by omega, by omega, by show _ ∧ _; exact ⟨rfl, rfl⟩⟩
          case round =>
            obtain ⟨k, x, hk, rfl, rfl, x0, x1, HA⟩ := hrel
            by_cases hkt : k < (t).size
            · have hsn := take_snocB t k hkt
              have hgk : (t).data.toList[k]? = some (t)[k] := by rw [List.getElem?_eq_getElem (by rw [len_size]; exact hkt)]; rfl
              have HC := Lib.hid (fun W => l01Digit_any ((t)[k].toNat : Int) W)
              rw [dgB_u8] at HC
              cases hdg : isDg (t)[k]
              · rw [hdg] at HC
                have hbad := HB.out (allD_take hgk hdg)
                obtain rfl := hbad
                clear hgk hsn hdg HB HF
                go_wp2_with fail
                refine (HC.out _).mono ?_
                rintro e w' ⟨rfl, rfl⟩
                go_wp2_with fail
                go_ret2
                exact ⟨rfl, Below.refl _ _⟩
              · rw [hdg] at HC
                have hd2 := of_decide_eq_true (hdg : decide _ = true)
                obtain ⟨hd3, hd4⟩ := hd2
                have hx17 : x ≤ 99999999999999999 := by
                  have := valL_bd17 HA.out.1 (by rw [List.length_take, len_size]; omega)
                  have := HA.out.2
                  omega
                have HN := Lib.hid (show allD ((t).data.toList.take (k + 1)) = true ∧ 10 * x + (((t)[k].toNat : Int) - 48) = (valL 0 ((t).data.toList.take (k + 1)) : Nat) by
                  refine ⟨by rw [hsn, allD_app, HA.out.1, allD_cons, hdg]; rfl, ?_⟩
                  have e : valL 0 ((t).data.toList.take (k + 1)) = valL 0 ((t).data.toList.take k) * 10 + ((t)[k].toNat - 48) := by rw [hsn, valL_app]; rfl
                  have := HA.out.2
                  omega)
                clear hgk hsn hdg HB HF
                have hd5 : (48 : Int) ≤ ((t)[k].toNat : Int) := by omega
                have hd6 : ((t)[k].toNat : Int) ≤ 57 := by omega
                go_wp2_with fail
                refine (HC.out _).mono ?_
                rintro e w' ⟨rfl, rfl⟩
                go_wp2_with fail
                go_round
                case rel => exact ⟨k + 1, 10 * x + (((t)[k].toNat : Int) - 48), by omega, by go_num, rfl, by omega, by omega, HN.out⟩
                case measure => simp [intOf]; omega
            · have hkt2 : (t).size ≤ k := by omega
              have HV2 := Lib.hid (show valI s.data.toList = if true = true then -x else x by
                have h := HA.out.2
                rw [List.take_of_length_le (by rw [len_size]; exact hkt2)] at h
                have e := HV.out
                rw [h]
                simpa using e)
              have hff := HF.out
              rw [HV2.out] at hff
              simp only [if_true, if_false, Bool.false_eq_true] at hff
              clear HB HF HV HA HV2
              rcases hff with ⟨hq, hr⟩ | ⟨hq, hr⟩
              all_goals
                subst hr
                have htl := hq
                first | replace htl := tl_t hq | replace htl := tl_f hq
                clear hq
                go_wp2_with fail
                refine (l01Dec_any _ _ (by omega) (by omega)).mono ?_
                rintro e w1 ⟨rfl, hb⟩
                have HBw := Lib.hid hb
                clear hb
                go_wp2_with fail
                go_ret2
                exact ⟨rfl, HBw.out⟩
        · first
            | (exfalso; omega)
            | (rw [rd_none (.inl (List.eq_nil_of_length_eq_zero (by rw [← htm, hlt]; omega)))]
               clear htm hlt hng
               go_enter Tryz.func75, Tryz.ntmps75
               go_wp2_with fail
               go_ret2
               exact ⟨rfl, Below.refl _ _⟩)
      · rw [rd_none (.inr (by rw [← htm, hlt]; omega))]
        clear htm hlt hng
        go_enter Tryz.func75, Tryz.ntmps75
        go_wp2_with fail
        go_ret2
        exact ⟨rfl, Below.refl _ _⟩
end Go.Proofs.YtlpglibnjmjjkaaGreatDoor
namespace Go.Proofs.YtlpglibnjmjjkaaGreatDoor
open Go.Lib
set_option linter.unusedVariables false

/-- Bytes laid before the first piece. -/
def preP (p : List UInt8) : List (List UInt8) → List (List UInt8)
  | [] => [p]
  | h :: t => (p ++ h) :: t
/-- The pieces of a text between bytes c. -/
def splL (c : UInt8) : List UInt8 → List (List UInt8)
  | [] => [[]]
  | b :: r => if b = c then [] :: splL c r else preP [b] (splL c r)
theorem preP_nil {x : List (List UInt8)} (h : x ≠ []) : preP [] x = x := by
  match x, h with
  | a :: r, _ => rfl
theorem preP_pre (p q : List UInt8) (x : List (List UInt8)) : preP p (preP q x) = preP (p ++ q) x := by
  cases x with
  | nil => rfl
  | cons a r => show (p ++ (q ++ a)) :: r = (p ++ q ++ a) :: r; rw [List.append_assoc]
theorem splL_ne (c : UInt8) : ∀ l, splL c l ≠ []
  | [] => by simp [splL]
  | b :: r => by
    unfold splL
    split
    · simp
    · match hs : splL c r with
      | [] => exact absurd hs (splL_ne c r)
      | a :: t => simp [preP]
theorem splL_eq (c : UInt8) (r : List UInt8) : splL c (c :: r) = [] :: splL c r := by rw [splL, if_pos rfl]
theorem splL_cons {b c : UInt8} (h : b ≠ c) (r : List UInt8) : splL c (b :: r) = preP [b] (splL c r) := by rw [splL, if_neg h]
theorem splL_len (c : UInt8) : ∀ l, (splL c l).length = l.count c + 1
  | [] => rfl
  | b :: r => by
    have ih := splL_len c r
    by_cases h : b = c
    · subst h
      rw [splL_eq, List.length_cons, ih, List.count_cons_self]
    · rw [splL_cons h, List.count_cons_of_ne (fun e => h e)]
      match hs : splL c r with
      | [] => exact absurd hs (splL_ne c r)
      | a :: t => rw [← ih, hs]; rfl
theorem splL_none (c : UInt8) : ∀ l, l.count c = 0 → splL c l = [l]
  | [], _ => rfl
  | b :: r, h => by
    have hb : b ≠ c := fun e => by subst e; rw [List.count_cons_self] at h; omega
    rw [List.count_cons_of_ne (fun e => hb e)] at h
    rw [splL_cons hb, splL_none c r h]; rfl
theorem index_cons (b c : UInt8) (l : List UInt8) : index (b :: l) [c] = if b = c then 0 else if index l [c] = -1 then -1 else index l [c] + 1 := by
  rw [index]
  by_cases h : b = c
  · subst h; simp
  · have : ¬ c = b := fun e => h e.symm
    simp [h, this]
theorem index_none (c : UInt8) : ∀ l, index l [c] = -1 → l.count c = 0
  | [], _ => rfl
  | b :: r, h => by
    rw [index_cons] at h
    have hge := index_ge r [c]
    split at h
    · omega
    · rename_i hb
      split at h
      · rename_i h1
        rw [List.count_cons_of_ne (fun e => hb e)]
        exact index_none c r h1
      · omega
/-- The library's pieces are those. -/
theorem splitK_spl (c : UInt8) : ∀ (l : List UInt8) (k : Nat), l.count c ≤ k → splitK [c] 0 k l = splL c l
  | [], k, _ => by
    cases k with
    | zero => rfl
    | succ k => rw [splitK, if_pos (by rfl)]; rfl
  | b :: r, k, h => by
    by_cases hb : b = c
    · subst hb
      rw [List.count_cons_self] at h
      obtain ⟨j, rfl⟩ : ∃ j, k = j + 1 := ⟨k - 1, by omega⟩
      have hi : index (b :: r) [b] = 0 := by rw [index_cons, if_pos rfl]
      rw [splitK, hi, if_neg (by decide), splL_eq]
      show ([] : List UInt8) :: splitK [b] 0 j r = [] :: splL b r
      rw [splitK_spl b r j (by omega)]
    · rw [List.count_cons_of_ne (fun e => hb e)] at h
      have ih := splitK_spl c r k h
      rw [splL_cons hb, ← ih]
      cases k with
      | zero => rfl
      | succ j =>
        rw [splitK, splitK, index_cons, if_neg hb]
        have hge := index_ge r [c]
        by_cases h1 : index r [c] = -1
        · rw [if_pos h1, if_pos (by rfl), if_pos (by rw [h1]; rfl)]; rfl
        · rw [if_neg h1, if_neg (by rw [beq_iff_eq]; omega), if_neg (by rw [beq_iff_eq]; exact h1)]
          obtain ⟨i, hi⟩ : ∃ i : Nat, index r [c] = i := ⟨(index r [c]).toNat, by omega⟩
          rw [hi]
          have e1 : ((i : Int) + 1).toNat = i + 1 := by omega
          have e2 : (i : Int).toNat = i := by omega
          rw [e1, e2]
          simp [preP]
theorem splitB_spl (c : UInt8) (s : ByteArray) : (splitB ⟨#[c]⟩ 0 (countB s ⟨#[c]⟩) s).map (·.data.toList) = splL c s.data.toList := by
  rw [splitB_data]
  refine splitK_spl c _ _ ?_
  have : countB s ⟨#[c]⟩ = s.data.toList.count c := count_one c s.data.toList
  omega
theorem countB_spl (c : UInt8) (s : ByteArray) : countB s ⟨#[c]⟩ + 1 = (splL c s.data.toList).length := by
  rw [splL_len]
  have : countB s ⟨#[c]⟩ = s.data.toList.count c := count_one c s.data.toList
  omega
/-- The pieces found so far, and the one that is open. -/
def SpAt (c : UInt8) (l : List UInt8) (i f : Nat) (done : List (List UInt8)) : Prop := splL c l = done ++ preP ((l.take i).drop f) (splL c (l.drop i))
theorem SpAt.start (c : UInt8) (l : List UInt8) : SpAt c l 0 0 [] := by
  unfold SpAt
  rw [List.take_zero, List.drop_zero, List.nil_append]
  exact (preP_nil (splL_ne c l)).symm
theorem SpAt.hit {c : UInt8} {l : List UInt8} {i f : Nat} {done : List (List UInt8)} (h : SpAt c l i f done) (hc : l[i]? = some c) : SpAt c l (i + 1) (i + 1) (done ++ [(l.take i).drop f]) := by
  have hl : i < l.length := by
    rcases Nat.lt_or_ge i l.length with h' | h'
    · exact h'
    · rw [List.getElem?_eq_none h'] at hc; cases hc
  have hd : l.drop i = c :: l.drop (i + 1) := by
    rw [List.drop_eq_getElem_cons hl]
    rw [List.getElem?_eq_getElem hl] at hc
    injection hc with hc
    rw [hc]
  unfold SpAt at *
  have e : (l.take (i + 1)).drop (i + 1) = [] := List.drop_of_length_le (by rw [List.length_take]; omega)
  rw [h, hd, splL_eq, List.append_assoc, e, preP_nil (splL_ne _ _)]
  simp [preP]
theorem SpAt.miss {c b : UInt8} {l : List UInt8} {i f : Nat} {done : List (List UInt8)} (h : SpAt c l i f done) (hb : l[i]? = some b) (hbc : b ≠ c) (hf : f ≤ i) : SpAt c l (i + 1) f done := by
  have hl : i < l.length := by
    rcases Nat.lt_or_ge i l.length with h' | h'
    · exact h'
    · rw [List.getElem?_eq_none h'] at hb; cases hb
  have hd : l.drop i = b :: l.drop (i + 1) := by
    rw [List.drop_eq_getElem_cons hl]
    rw [List.getElem?_eq_getElem hl] at hb
    injection hb with hb
    rw [hb]
  have ht : (l.take (i + 1)).drop f = (l.take i).drop f ++ [b] := by
    rw [List.take_add_one, hb]
    rw [List.drop_append_of_le_length (by rw [List.length_take]; omega)]; rfl
  unfold SpAt at *
  rw [h, hd, splL_cons hbc, preP_pre, ht]
theorem SpAt.done {c : UInt8} {l : List UInt8} {i f : Nat} {dn : List (List UInt8)} (h : SpAt c l i f dn) (hi : l.length ≤ i) : splL c l = dn ++ [l.drop f] := by
  unfold SpAt at h
  rw [h, List.drop_of_length_le hi, List.take_of_length_le hi]
  simp [splL, preP]
end Go.Proofs.YtlpglibnjmjjkaaGreatDoor
namespace Go.Proofs.YtlpglibnjmjjkaaGreatDoor
open Go.RowKit
set_option linter.unusedVariables false
set_option linter.unusedSimpArgs false
attribute [local go_sem ↓] Go.wp_at_zero Go.wp_at_succ

/-- The library's variable MaxLen holds a number. -/
def Mx (w : World) : Prop := ∃ m, w.cell? ⟨0, 0, none⟩ = some (.int .i64 m)
theorem Mx.below {w w' : World} (h : Mx w) (hb : Below w.heap.size w w') : Mx w' := by
  obtain ⟨m, hm⟩ := h
  exact ⟨m, (hb.cell (p := ⟨0, 0, none⟩) (World.block_lt_of_cell? w _ hm)).trans hm⟩
theorem mx {w : World} (h : w.ShapedOpen Tryz.prog) : Mx w := Tryz.laysM138.s1_3 w h
/-- A list of texts, the call's own. -/
def RetT (base : Nat) (ls : List (List UInt8)) (e : Ending) (w : World) : Prop :=
  ∃ (A : Option Addr) (c : Nat) (ts : List ByteArray), e = .returned (.slice A ls.length c) ∧ w.ownsRow base 9 1 (.slice A ls.length c) ls.length (ts.map Value.string) ∧ ts.map (fun t : ByteArray => t.data.toList) = ls
theorem own_lenT {w : World} {base e n : Nat} {v : Value} {ts : List ByteArray} (h : w.ownsRow base e 1 v n (ts.map Value.string)) : ts.length = n := by have := h.1; simpa using this
theorem own_cellT {w : World} {base e n c g : Nat} {ts : List ByteArray} {k : Nat} {t : ByteArray} (h : w.ownsRow base e 1 (.slice (some ⟨g, 0, none⟩) n c) n (ts.map Value.string)) (ht : ts[k]? = some t) : w.cell? ⟨g, k, none⟩ = some (.string t) := by
  have hl := own_lenT h
  have hk : k < n := by
    rcases Nat.lt_or_ge k ts.length with h' | h'
    · omega
    · rw [List.getElem?_eq_none h'] at ht; cases ht
  rw [h.cellAt k (by omega), List.getElem?_map, ht]; rfl
theorem ext_mid (s : ByteArray) (f i : Nat) : (s.extract f i).data.toList = (s.data.toList.take i).drop f := by
  simp [List.drop_take]
theorem ext_end (s : ByteArray) (f : Nat) : (s.extract f s.size).data.toList = s.data.toList.drop f := by
  rw [ext_mid, List.take_of_length_le (by rw [len_size]; exact Nat.le_refl _)]
set_option maxRecDepth 100000 in
set_option maxHeartbeats 3200000 in
theorem l01Split_any (s : ByteArray) (c : UInt8) (w : World) (hs : s.size ≤ 1048576) :
    Calls Tryz.prog 74 #[.string s, .int .u8 (c.toNat : Nat)] w fun e w' => RetT w.heap.size (splL c s.data.toList) e w' ∧ Below w.heap.size w w' := by
  obtain ⟨i0, hi, hz0, hz1, hz2⟩ := info_parts info_str
  have HO0 := Lib.hid (World.ownsRow_made (e := 9) (size := 1) w #[] 0 (Nat.le_refl _) (by decide) rfl)
  go_enter Tryz.func74, Tryz.ntmps74
  go_wp2_with fail
  go_loopw [5, 6, 7] (fun l fr i wr => ∃ (k f m cp g : Nat) (ts : List ByteArray), l = .slice (some ⟨g, 0, none⟩) m cp ∧ fr = .int .i64 f ∧ i = .int .i64 k ∧ f ≤ k ∧ k ≤ s.size ∧ m ≤ k ∧
    wr.ownsRow w.heap.size 9 1 (.slice (some ⟨g, 0, none⟩) m cp) m (ts.map Value.string) ∧ Hid (SpAt c s.data.toList k f (ts.map (fun t : ByteArray => t.data.toList))) ∧ Below w.heap.size w wr) (fun _ _ i _ => s.size - (intOf i).toNat)
  case atStart => exact ⟨0, 0, 0, 0, _, [], rfl, rfl, rfl, Nat.le_refl _, Nat.zero_le _, Nat.le_refl _, by have := HO0.out; simpa using this, SpAt.start _ _, (Below.refl _ _).alloc (Nat.le_refl _) _⟩
  case round =>
    obtain ⟨k, f, m, cp, g, ts, rfl, rfl, rfl, hfk, hks, hmk, hown, HE, hbel⟩ := hrel
    have HO := Lib.hid hown
    have HB := Lib.hid hbel
    have hwr : w.heap.size ≤ wr.heap.size := hbel.size
    have HLF := Lib.hid hown.lt
    clear hown hbel
    by_cases hlt : k < s.size
    · have hgk : s.data.toList[k]? = some s[k] := Lib.data_getElem? s k hlt
      by_cases hc : s[k] = c
      · have hcb : ((s[k].toNat : Int) == (c.toNat : Int)) = true := by rw [hc]; exact beq_self_eq_true _
        have HE' := Lib.hid (HE.out.hit (by rw [hgk, hc]))
        clear hgk hc
        go_wp2_with (first | (at_builtin; refine wpList_append_lies _ rfl (.tmp 20) (.tmp 25) 75 rfl w.heap.size 9 i0 (.string ByteArray.empty) 1 16 Tryz.underlying75 hi hz0 hz1 hz2 rfl (by decide) _ m (ts.map Value.string) (by rfl) (HO.out.alloc _) ⟨wr.heap.size, 0, none⟩ 1 1 [.string (s.extract f k)] (by rfl) rfl (fun j u hu => newcell (by simp) hu) (by simp [Value.oneCell']) (by decide) (by show m + 1 ≤ 9223372036854775807; omega) (by omega) (by simp; omega) (wr.heap.size + 1) (by simp) ?_; intro g' cap1 wn hown1 hgrow hat hlt1))
        go_roundw
        case rel =>
          refine ⟨k + 1, k + 1, m + 1, cap1, g', ts ++ [s.extract f k], rfl, by go_num, by go_num, Nat.le_refl _, by omega, by omega, by rw [List.map_append]; exact hown1, ?_, ?_⟩
          · show SpAt _ _ _ _ _
            rw [List.map_append, List.map_cons, List.map_nil, ext_mid]
            exact HE'.out
          · exact (HB.out.alloc hwr _).grown hgrow (by simp; omega) (fun j hj => (HLF.out j hj).1)
        case measure => simp [intOf] <;> omega
      · have hcb : ((s[k].toNat : Int) == (c.toNat : Int)) = false := by
          rw [beq_eq_false_iff_ne]
          intro e
          exact hc (Lib.byte_eq_of_toNat e)
        have HE' := Lib.hid (HE.out.miss hgk hc hfk)
        clear hgk hc
        go_wp2_with fail
        go_roundw
        case rel => exact ⟨k + 1, f, m, cp, g, ts, rfl, rfl, by go_num, by omega, by omega, by omega, HO.out, HE'.out, HB.out⟩
        case measure => simp [intOf] <;> omega
    · have hks2 : s.size ≤ k := by omega
      have HE' := Lib.hid (HE.out.done (by rw [len_size]; exact hks2))
      clear hlt
      go_wp2_with (first | (at_builtin; refine wpList_append_lies _ rfl (.tmp 29) (.tmp 33) 75 rfl w.heap.size 9 i0 (.string ByteArray.empty) 1 16 Tryz.underlying75 hi hz0 hz1 hz2 rfl (by decide) _ m (ts.map Value.string) (by rfl) (HO.out.alloc _) ⟨wr.heap.size, 0, none⟩ 1 1 [.string (s.extract f s.size)] (by rfl) rfl (fun j u hu => newcell (by simp) hu) (by simp [Value.oneCell']) (by decide) (by show m + 1 ≤ 9223372036854775807; omega) (by omega) (by simp; omega) (wr.heap.size + 1) (by simp) ?_; intro g' cap1 wn hown1 hgrow hat hlt1))
      go_ret
      have hl : (splL c s.data.toList).length = m + 1 := by rw [HE'.out, List.length_append, List.length_map, own_lenT HO.out]; rfl
      refine ⟨⟨some ⟨g', 0, none⟩, cap1, ts ++ [s.extract f s.size], by rw [hl]; rfl, ?_, ?_⟩, ?_⟩
      · rw [hl, List.map_append]; exact hown1
      · rw [HE'.out, List.map_append, List.map_cons, List.map_nil, ext_end]
      · exact (HB.out.alloc hwr _).grown hgrow (by simp; omega) (fun j hj => (HLF.out j hj).1)
end Go.Proofs.YtlpglibnjmjjkaaGreatDoor
namespace Go.Proofs.YtlpglibnjmjjkaaGreatDoor
open Go.RowKit
set_option linter.unusedVariables false

/-- A term with a sign, behind the first place. -/
def psE (_ : Nat) (t : Int × Int) : Bool := (t.1 == 1 || t.1 == -1) && inB t.2 1 1000000000
/-- A term with a sign at its place. -/
def sgnE (k : Nat) (t : Int × Int) : Bool := if k = 0 then t.1 == 1 && inB t.2 (-1000000000) 1000000000 else psE k t
/-- A list is one of terms with signs. -/
def sgnB (zs : List (Int × Int)) : Bool := inB (zs.length : Int) 1 60 && allK sgnE 0 zs
def FoundB (V : Bool) (w : World) (e : Ending) (w' : World) : Prop := ∃ r : Int, e = .returned (.int .i64 r) ∧ (V = true → r = -1) ∧ (V = false → 0 ≤ r) ∧ Below w.heap.size w w'

theorem sgn_tail {zs : List (Int × Int)} {y : Int} (h0 : zs[0]? = some (1, y)) (hl : inB (zs.length : Int) 1 60 = true) (hy : inB y (-1000000000) 1000000000 = true) : sgnB zs = allK psE 0 zs.tail := by
  unfold sgnB
  rw [hl, Bool.true_and]
  match zs, h0 with
  | t :: r, h0 =>
    simp at h0; subst h0
    show (sgnE 0 (1, y) && allK sgnE 1 r) = allK psE 0 r
    rw [show sgnE 0 (1, y) = true from by unfold sgnE; rw [if_pos rfl]; simpa using hy, Bool.true_and]
    cases hp : allK psE 0 r
    · cases ht : allK sgnE 1 r
      · rfl
      · exfalso
        have : allK psE 0 r = true := allK_t psE r 0 fun k z hk => by
          have := allK_at sgnE r 1 k z ht hk
          unfold sgnE at this
          rw [if_neg (by omega)] at this
          exact this
        rw [this] at hp; cases hp
    · exact allK_t sgnE r 1 fun k z hk => by
        have := allK_at psE r 0 k z hp hk
        unfold sgnE
        rw [if_neg (by omega)]
        exact this
theorem sgn_bad {zs : List (Int × Int)} {k : Nat} {t : Int × Int} (h : zs[k]? = some t) (hf : sgnE k t = false) : sgnB zs = false := by
  unfold sgnB; rw [allK_f sgnE zs 0 k t h (by rw [Nat.zero_add]; exact hf)]; simp

theorem vs_closure (x y : Int) (w : World) : Calls Tryz.prog 81 #[.agg #[.int .i64 x, .int .i64 y]] w fun e w' => e = .returned (.bool (!psE 0 (x, y))) ∧ Below w.heap.size w w' := by
  by_cases h1 : x = 1
  · subst h1
    rw [show psE 0 (1, y) = inB y 1 1000000000 from by unfold psE; simp]
    go_enter Tryz.func81, Tryz.ntmps81
    go_wp2_with (go_at_call 78; refine (within_any _ _ _ _).mono ?_; rintro e w1 ⟨rfl, rfl⟩)
    go_ret
    exact ⟨rfl, by go_grown⟩
  · by_cases h2 : x = -1
    · subst h2
      rw [show psE 0 (-1, y) = inB y 1 1000000000 from by unfold psE; simp]
      clear h1
      go_enter Tryz.func81, Tryz.ntmps81
      go_wp2_with (go_at_call 78; refine (within_any _ _ _ _).mono ?_; rintro e w1 ⟨rfl, rfl⟩)
      go_ret
      exact ⟨rfl, by go_grown⟩
    · rw [show psE 0 (x, y) = false from by unfold psE; simp [h1, h2]]
      have e1 : (x != 1) = true := by rw [bne_iff_ne]; exact h1
      have e2 : (x != -1) = true := by rw [bne_iff_ne]; exact h2
      clear h1 h2
      go_enter Tryz.func81, Tryz.ntmps81
      go_wp2_with (go_at_call 78; refine (within_any _ _ _ _).mono ?_; rintro e w1 ⟨rfl, rfl⟩)
      go_ret
      exact ⟨rfl, by go_grown⟩
theorem vs_index (A : Option Addr) (n cap : Nat) (zs : List (Int × Int)) (w : World) (h : PRow w A n zs) :
    Calls Tryz.prog 112 #[.slice A n cap, .func (.func 81) #[] #[]] w (FoundB (allK psE 0 zs) w) := by
  have hbd := h.bd
  have Hl := Lib.hid h.len
  have hw := Lib.hid h; clear h
  go_enter Tryz.func112, Tryz.ntmps112
  go_wp2
  go_loopw [8] (fun i wr => ∃ k : Nat, k ≤ n ∧ i = .int .i64 k ∧ Hid (Upto psE zs k) ∧ Below w.heap.size w wr) (fun i _ => n - (intOf i).toNat)
  case atStart => exact ⟨0, Nat.zero_le _, rfl, Upto.zero _ _, Below.refl _ _⟩
  case round =>
    obtain ⟨k, hk, rfl, HU, hb⟩ := hrel
    by_cases hlt : k < n
    · obtain ⟨bb, o, x, y, rfl, hz, _, _, _, _, hc1, hc2⟩ := (hw.out.below hb).at_ hlt
      have HZ := Lib.hid hz; clear hz
      cases hp : psE 0 (x, y)
      · go_wp2_with fail
        refine (vs_closure x y _).mono ?_
        rintro e w2 ⟨rfl, hb2⟩
        go_wp2_with fail
        go_ret
        exact ⟨_, rfl, (fun hV => by rw [allK_f psE zs 0 k _ HZ.out hp] at hV; cases hV), (fun _ => by omega), hb.trans (hb2.mono hb.size)⟩
      · go_wp2_with fail
        refine (vs_closure x y _).mono ?_
        rintro e w2 ⟨rfl, hb2⟩
        have hb3 := hb.trans (hb2.mono hb.size)
        go_wp2_with fail
        go_roundw
        case rel => exact ⟨k + 1, by omega, by go_num, HU.out.step HZ.out hp, hb3⟩
        case measure => simp [intOf]; omega
    · obtain rfl : n = k := by omega
      go_wp2
      go_ret
      have hV := HU.out.all (by have := Hl.out; omega)
      exact ⟨_, rfl, (fun _ => rfl), (fun h => (by rw [hV] at h; cases h)), hb⟩
theorem vs_contains (A : Option Addr) (n cap : Nat) (zs : List (Int × Int)) (w : World) (h : PRow w A n zs) :
    Calls Tryz.prog 80 #[.slice A n cap, .func (.func 81) #[] #[]] w fun e w' => e = .returned (.bool (!allK psE 0 zs)) ∧ Below w.heap.size w w' := by
  cases hV : allK psE 0 zs
  · go_enter Tryz.func80, Tryz.ntmps80
    go_wp2_with fail
    refine (vs_index A n cap zs _ h).mono ?_
    rintro e w1 ⟨r, rfl, _, h2, hb⟩
    have h3 := h2 hV
    clear h2
    go_wp2_with fail
    go_ret
    exact ⟨rfl, hb⟩
  · go_enter Tryz.func80, Tryz.ntmps80
    go_wp2_with fail
    refine (vs_index A n cap zs _ h).mono ?_
    rintro e w1 ⟨r, rfl, h1, _, hb⟩
    have h3 := h1 hV
    subst h3
    clear h1
    go_wp2_with fail
    go_ret
    exact ⟨rfl, hb⟩

theorem sgn_in {l : List (Int × Int)} (h : sgnB l = true) : 1 ≤ l.length ∧ l.length ≤ 60 ∧ ∀ z ∈ l, (z.1 = 1 ∨ z.1 = -1) ∧ -1000000000 ≤ z.2 ∧ z.2 ≤ 1000000000 := by
  unfold sgnB at h
  rw [Bool.and_eq_true, inB_iff] at h
  obtain ⟨⟨h1, h2⟩, h3⟩ := h
  refine ⟨by omega, by omega, fun z hz => ?_⟩
  obtain ⟨k, hk⟩ := List.mem_iff_getElem?.1 hz
  have hh := allK_at sgnE l 0 k z h3 hk
  unfold sgnE at hh
  split at hh
  · rw [Bool.and_eq_true, beq_iff_eq, inB_iff] at hh
    exact ⟨.inl hh.1, hh.2⟩
  · unfold psE at hh
    rw [Bool.and_eq_true, Bool.or_eq_true, beq_iff_eq, beq_iff_eq, inB_iff] at hh
    exact ⟨hh.1, by omega, hh.2.2⟩
theorem PRow.tail {w : World} {b o n : Nat} {zs : List (Int × Int)} (h : PRow w (some ⟨b, o, none⟩) n zs) (hn : 1 ≤ n) : PRow w (some ⟨b, o + 2, none⟩) (n - 1) zs.tail := by
  refine ⟨by rw [List.length_tail, h.1], by have := h.2.1; omega, fun z hz => h.2.2.1 z (List.mem_of_mem_tail hz), ?_⟩
  have hd := h.2.2.2.drop_ 2
  have e : (prs zs).drop 2 = prs zs.tail := by
    match zs with
    | [] => rfl
    | t :: r => rfl
  rw [e] at hd
  exact hd

set_option maxHeartbeats 1600000 in
theorem validSigned_any (A : Option Addr) (n cap : Nat) (zs : List (Int × Int)) (w : World) (h : PRow w A n zs) (hcap : n ≤ cap) :
    Calls Tryz.prog 36 #[.slice A n cap] w fun e w' => e = .returned (.bool (sgnB zs)) ∧ Below w.heap.size w w' := by
  have hbd := h.bd
  have hlen := h.len
  by_cases hn : 1 ≤ n ∧ n ≤ 60
  · obtain ⟨hn1, hn2⟩ := hn
    obtain ⟨bb, o, x, y, rfl, hz, _, _, _, _, hc1, hc2⟩ := h.at_ (k := 0) (by omega)
    have hi : inB (n : Int) 1 60 = true := inB_t (by omega) (by omega)
    have hi' : inB (zs.length : Int) 1 60 = true := by rw [hlen]; exact hi
    simp only [Nat.zero_mul, Nat.add_zero] at hc1 hc2
    by_cases hx : x = 1
    · subst hx
      cases hb : inB y (-1000000000) 1000000000
      · rw [sgn_bad hz (by unfold sgnE; rw [if_pos rfl]; simp [hb])]
        clear hz hlen hi'
        go_enter Tryz.func36, Tryz.ntmps36
        go_wp2_with (first | (go_at_call 79; go_in) | (go_at_call 78; refine (within_any _ _ _ _).mono ?_; rintro e w1 ⟨rfl, rfl⟩))
        go_ret
        exact ⟨rfl, Below.refl _ _⟩
      · rw [sgn_tail hz hi' hb]
        have ht := h.tail hn1
        clear hz hlen hi'
        by_cases hc : cap = 1
        · obtain rfl : n = 1 := by omega
          subst hc
          have HT : Hid (zs.tail = []) := List.eq_nil_of_length_eq_zero (by rw [ht.len])
          have ht' : PRow w (some ⟨bb, o, none⟩) 0 zs.tail := by rw [HT.out]; exact ⟨rfl, by omega, by simp, Rd.nil⟩
          clear ht h
          go_enter Tryz.func36, Tryz.ntmps36
          go_wp2_with (first | (go_at_call 79; go_in) | (go_at_call 78; refine (within_any _ _ _ _).mono ?_; rintro e w1 ⟨rfl, rfl⟩))
          refine (vs_contains _ 0 _ zs.tail _ ht').mono ?_
          rintro e w1 ⟨rfl, hb1⟩
          go_wp2_with fail
          go_ret
          exact ⟨ret_bool (by simp), hb1⟩
        · clear h
          go_enter Tryz.func36, Tryz.ntmps36
          go_wp2_with (first | (go_at_call 79; go_in) | (go_at_call 78; refine (within_any _ _ _ _).mono ?_; rintro e w1 ⟨rfl, rfl⟩))
          refine (vs_contains _ (n - 1) _ zs.tail _ ht).mono ?_
          rintro e w1 ⟨rfl, hb1⟩
          go_wp2_with fail
          go_ret
          exact ⟨ret_bool (by simp), hb1⟩
    · rw [sgn_bad hz (by unfold sgnE; rw [if_pos rfl]; simp [hx])]
      have e1 : (x != 1) = true := by rw [bne_iff_ne]; exact hx
      clear hz hlen hi' hx
      go_enter Tryz.func36, Tryz.ntmps36
      go_wp2_with (first | (go_at_call 79; go_in) | (go_at_call 78; refine (within_any _ _ _ _).mono ?_; rintro e w1 ⟨rfl, rfl⟩))
      go_ret
      exact ⟨rfl, Below.refl _ _⟩
  · rw [show sgnB zs = false from by unfold sgnB; rw [hlen, inB_f (by omega)]; rfl]
    have hi : inB (n : Int) 1 60 = false := inB_f (by omega)
    clear hn hlen
    go_enter Tryz.func36, Tryz.ntmps36
    go_wp2_with (first | (go_at_call 79; go_in) | (go_at_call 78; refine (within_any _ _ _ _).mono ?_; rintro e w1 ⟨rfl, rfl⟩))
    go_ret
    exact ⟨rfl, Below.refl _ _⟩

set_option maxHeartbeats 3200000 in
theorem l04Ok_any (A : Option Addr) (n cap : Nat) (zs : List (Int × Int)) (w : World) (h : PRow w A n zs) :
    Calls Tryz.prog 65 #[.slice A n cap] w fun e w' => e = .returned (.bool (sgnB zs)) ∧ w = w' := by
  have hbd := h.bd
  have hlen := h.len
  have Hl := Lib.hid hlen
  obtain ⟨V, hV⟩ : ∃ V, V = sgnB zs := ⟨_, rfl⟩
  rw [← hV]
  have HV := Lib.hid hV; clear hV hlen
  have hw := Lib.hid h; clear h
  go_enter Tryz.func65, Tryz.ntmps65
  go_wp2
  go_loop [3] (fun i => ∃ k : Nat, k ≤ n ∧ i = .int .i64 k ∧ Hid (Upto sgnE zs k)) (fun i => n - (intOf i).toNat)
  case atStart => exact ⟨0, Nat.zero_le _, rfl, Upto.zero _ _⟩
  case round =>
    obtain ⟨k, hk, rfl, HU⟩ := hrel
    by_cases hlt : k < n
    · obtain ⟨bb, o, x, y, rfl, hz, _, _, _, _, hc1, hc2⟩ := hw.out.at_ hlt
      have HZ := Lib.hid hz; clear hz
      rcases (by omega : k ≤ 0 ∨ 1 ≤ k) with a1 | a1
      · have hk0 : k = 0 := by omega
        have hd1 : w.cell? ⟨bb, o, none⟩ = some (.int .i64 x) := by rw [hk0] at hc1; simpa using hc1
        have hd2 : w.cell? ⟨bb, o + 1, none⟩ = some (.int .i64 y) := by rw [hk0] at hc2; simpa using hc2
        have HE : Hid (sgnE k (x, y) = (x == 1 && inB y (-1000000000) 1000000000)) := by show sgnE k (x, y) = _; unfold sgnE; rw [if_pos hk0]
        clear hk0
        cases hb : inB y (-1000000000) 1000000000
        · have HF : Hid (sgnB zs = false) := sgn_bad HZ.out (by rw [HE.out, hb]; simp)
          go_wp2_with (go_at_call 86; refine (l00In_any _ _ _ _).mono ?_; rintro e w1 ⟨rfl, rfl⟩)
          go_ret
          exact ⟨ret_bool (by rw [HV.out, HF.out]), rfl⟩
        · by_cases hx : x = 1
          · have HN := Lib.hid (HU.out.step HZ.out (by rw [HE.out, hb, hx]; rfl))
            have hx1 : x ≤ 1 := by omega
            have hx2 : 1 ≤ x := by omega
            clear hx
            go_wp2_with (go_at_call 86; refine (l00In_any _ _ _ _).mono ?_; rintro e w1 ⟨rfl, rfl⟩)
            go_round
            case rel => exact ⟨k + 1, by omega, by go_num, HN⟩
            case measure => simp [intOf]; omega
          · have HF : Hid (sgnB zs = false) := sgn_bad HZ.out (by rw [HE.out, show (x == 1) = false from by rw [beq_eq_false_iff_ne]; exact hx]; rfl)
            have e1 : (x != 1) = true := by rw [bne_iff_ne]; exact hx
            clear hx
            go_wp2_with (go_at_call 86; refine (l00In_any _ _ _ _).mono ?_; rintro e w1 ⟨rfl, rfl⟩)
            go_ret
            exact ⟨ret_bool (by rw [HV.out, HF.out]), rfl⟩
      · have HE : Hid (sgnE k (x, y) = ((x == 1 || x == -1) && inB y 1 1000000000)) := by show sgnE k (x, y) = _; unfold sgnE; rw [if_neg (by omega)]; rfl
        cases hb : inB y 1 1000000000
        · have HF : Hid (sgnB zs = false) := sgn_bad HZ.out (by rw [HE.out, hb]; simp)
          go_wp2_with (go_at_call 86; refine (l00In_any _ _ _ _).mono ?_; rintro e w1 ⟨rfl, rfl⟩)
          go_ret
          exact ⟨ret_bool (by rw [HV.out, HF.out]), rfl⟩
        · by_cases hx : x = 1
          · have HN := Lib.hid (HU.out.step HZ.out (by rw [HE.out, hb, hx]; rfl))
            have hx1 : x ≤ 1 := by omega
            have hx2 : 1 ≤ x := by omega
            clear hx
            go_wp2_with (go_at_call 86; refine (l00In_any _ _ _ _).mono ?_; rintro e w1 ⟨rfl, rfl⟩)
            go_round
            case rel => exact ⟨k + 1, by omega, by go_num, HN⟩
            case measure => simp [intOf]; omega
          · by_cases hx' : x = -1
            · have HN := Lib.hid (HU.out.step HZ.out (by rw [HE.out, hb, hx']; rfl))
              have hx1 : x ≤ -1 := by omega
              have hx2 : -1 ≤ x := by omega
              have e1 : (x != 1) = true := by rw [bne_iff_ne]; exact hx
              clear hx hx'
              go_wp2_with (go_at_call 86; refine (l00In_any _ _ _ _).mono ?_; rintro e w1 ⟨rfl, rfl⟩)
              go_round
              case rel => exact ⟨k + 1, by omega, by go_num, HN⟩
              case measure => simp [intOf]; omega
            · have HF : Hid (sgnB zs = false) := sgn_bad HZ.out (by rw [HE.out, show (x == 1) = false from by (rw [beq_eq_false_iff_ne]; exact hx), show (x == -1) = false from by (rw [beq_eq_false_iff_ne]; exact hx')]; rfl)
              have e1 : (x != 1) = true := by rw [bne_iff_ne]; exact hx
              have e2 : (x != -1) = true := by rw [bne_iff_ne]; exact hx'
              clear hx hx'
              go_wp2_with (go_at_call 86; refine (l00In_any _ _ _ _).mono ?_; rintro e w1 ⟨rfl, rfl⟩)
              go_ret
              exact ⟨ret_bool (by rw [HV.out, HF.out]), rfl⟩
    · obtain rfl : n = k := by omega
      have HA : Hid (allK sgnE 0 zs = true) := HU.out.all (by have := Hl.out; omega)
      go_wp2_with (go_at_call 86; refine (l00In_any _ _ _ _).mono ?_; rintro e w1 ⟨rfl, rfl⟩)
      go_ret
      exact ⟨ret_bool (by rw [HV.out]; unfold sgnB; rw [HA.out, Bool.and_true, Hl.out]), rfl⟩
theorem specValidSigned_any (A : Option Addr) (n cap : Nat) (zs : List (Int × Int)) (w : World) (h : PRow w A n zs) :
    Calls Tryz.prog 37 #[.slice A n cap] w fun e w' => e = .returned (.bool (sgnB zs)) ∧ w = w' := by
  go_enter Tryz.func37, Tryz.ntmps37
  go_wp2_with fail
  refine (l04Ok_any A n cap zs _ h).mono ?_
  rintro e w1 ⟨rfl, rfl⟩
  go_wp2_with fail
  go_ret
  exact ⟨rfl, rfl⟩
end Go.Proofs.YtlpglibnjmjjkaaGreatDoor
namespace Go.Proofs.YtlpglibnjmjjkaaGreatDoor
open Go.Lib
set_option linter.unusedVariables false

def mkS (s : Int) : List UInt8 := if s < 0 then [32, 45] else [32, 43]
/-- The terms behind the first one. -/
def stL : List (Int × Int) → List UInt8
  | [] => []
  | z :: r => mkS z.1 ++ itoa z.2 ++ stL r
/-- The text of terms with signs. -/
def sgL : List (Int × Int) → List UInt8
  | [] => []
  | z :: r => itoa z.2 ++ stL r
theorem stL_app : ∀ (r s : List (Int × Int)), stL (r ++ s) = stL r ++ stL s
  | [], s => rfl
  | z :: r, s => by
    show mkS z.1 ++ itoa z.2 ++ stL (r ++ s) = mkS z.1 ++ itoa z.2 ++ stL r ++ stL s
    rw [stL_app r s, List.append_assoc (mkS z.1 ++ itoa z.2)]
theorem stL_one (z : Int × Int) : stL [z] = mkS z.1 ++ itoa z.2 := by show mkS z.1 ++ itoa z.2 ++ [] = _; rw [List.append_nil]
/-- The text so far: k terms. -/
def sfL (zs : List (Int × Int)) (k : Nat) : List UInt8 := itoa (zs.headD (0, 0)).2 ++ stL (zs.tail.take (k - 1))
theorem sfL_one (zs : List (Int × Int)) : sfL zs 1 = itoa (zs.headD (0, 0)).2 := by unfold sfL; simp [stL]
theorem sfL_step {zs : List (Int × Int)} {k : Nat} {z : Int × Int} (hk : 1 ≤ k) (hz : zs[k]? = some z) : sfL zs (k + 1) = sfL zs k ++ (mkS z.1 ++ itoa z.2) := by
  have hz' : zs.tail[k - 1]? = some z := by rw [List.getElem?_tail, show k - 1 + 1 = k by omega]; exact hz
  have ht : zs.tail.take (k + 1 - 1) = zs.tail.take (k - 1) ++ [z] := by
    rw [show k + 1 - 1 = k - 1 + 1 by omega, List.take_add_one, hz']; rfl
  unfold sfL
  rw [ht, stL_app, stL_one, List.append_assoc (itoa _)]
theorem sfL_all {zs : List (Int × Int)} {k : Nat} (hk : 1 ≤ k) (hl : zs.length = k) : sgL zs = sfL zs k := by
  match zs, hl with
  | z :: r, hl =>
    unfold sfL
    rw [List.take_of_length_le (by simp at hl; simp; omega)]
    rfl
  | [], hl => simp at hl; omega
end Go.Proofs.YtlpglibnjmjjkaaGreatDoor
namespace Go.Proofs.YtlpglibnjmjjkaaGreatDoor
open Go.RowKit
set_option linter.unusedVariables false
set_option linter.unusedSimpArgs false
attribute [local go_sem ↓] Go.wp_at_zero Go.wp_at_succ

/-- The text of terms with signs as a string. -/
def sgS (zs : List (Int × Int)) : ByteArray := if sgnB zs = true then ⟨(sgL zs).toArray⟩ else ⟨#[]⟩
set_option maxRecDepth 100000 in
set_option maxHeartbeats 3200000 in
theorem l04Text_any (A : Option Addr) (n cap : Nat) (zs : List (Int × Int)) (w : World) (h : PRow w A n zs) (hv : sgnB zs = true) :
    Calls Tryz.prog 70 #[.slice A n cap] w fun e w' => e = .returned (.string ⟨(sgL zs).toArray⟩) ∧ Below w.heap.size w w' := by
  obtain ⟨h1, hn, hsg⟩ := sgn_in hv
  rw [h.len] at h1 hn
  obtain ⟨bb, oo, s, z, rfl, hz, _, _, z1, z2, _, hc⟩ := h.at_ (k := 0) (by omega)
  simp only [Nat.zero_mul, Nat.add_zero] at hc
  have hhd : (zs.headD (0, 0)).2 = z := by cases zs with | nil => cases hz | cons a r => simp at hz; simp [hz]
  have hs1 : (decS z).size ≤ 21 := decS_size z1 z2
  have HW := Lib.hid h
  have HH := Lib.hid hhd
  have HLen := Lib.hid h.len
  have HS := Lib.hid hsg
  clear h hz hhd hsg hv
  go_enter Tryz.func70, Tryz.ntmps70
  go_wp2_with fail
  refine (l01Dec_any z w z1 z2).mono ?_
  rintro e w1 ⟨rfl, hb1⟩
  have HB1 := Lib.hid hb1
  clear hb1 hc
  go_wp2_with fail
  go_loopw [3, 4] (fun a i wr => ∃ (k : Nat) (o : ByteArray), 1 ≤ k ∧ k ≤ n ∧ i = .int .i64 k ∧ a = .string o ∧ o.size ≤ 30 * k ∧ Hid (o.data.toList = sfL zs k) ∧ Below w.heap.size w wr) (fun _ i _ => n - (intOf i).toNat)
  case atStart => exact ⟨1, _, Nat.le_refl _, h1, rfl, rfl, by omega, by show _ = _; rw [decS_data, sfL_one, HH.out], HB1.out⟩
  case round =>
    obtain ⟨k, o, hk1, hkn, rfl, rfl, ho, HO, hbel⟩ := hrel
    by_cases hlt : k < n
    · obtain ⟨b', o', x, y, e, hy, _, _, y1, y2, hcx, hcy⟩ := (HW.out.below hbel).at_ hlt
      injection e with e
      injection e with e1 e2
      subst e1 e2
      have hs2 : (decS y).size ≤ 21 := decS_size y1 y2
      have HP := Lib.hid (sfL_step hk1 hy)
      have hx := (HS.out _ (List.mem_of_getElem? hy)).1
      simp only at hx
      have HB := Lib.hid hbel
      have hk60 : k ≤ 60 := by omega
      clear hy hbel
      rcases hx with hx | hx
      · have HX := Lib.hid (show mkS x = [32, 43] by unfold mkS; first | rw [if_pos (by omega)] | rw [if_neg (by omega)])
        have hx0 : x < 2 := by omega
        have hx1 : -2 < x := by omega
        subst hx
        go_wp2_with fail
        refine (l01Dec_any y wr y1 y2).mono ?_
        rintro e w2 ⟨rfl, hb2⟩
        have HB2 := Lib.hid (HB.out.trans (hb2.mono HB.out.size))
        clear hb2 hcy hcx
        go_wp2_with fail
        go_roundw
        case rel => exact ⟨k + 1, _, by omega, by omega, by go_num, rfl, by rw [size_app, size_app]; have : (⟨#[32, 43]⟩ : ByteArray).size = 2 := rfl; omega, by show _ = _; rw [data_app, data_app, decS_data, HO.out, HP.out, HX.out], HB2.out⟩
        case measure => simp [intOf]; omega
      · have HX := Lib.hid (show mkS x = [32, 45] by unfold mkS; first | rw [if_pos (by omega)] | rw [if_neg (by omega)])
        have hx0 : x < 2 := by omega
        have hx1 : -2 < x := by omega
        subst hx
        go_wp2_with fail
        refine (l01Dec_any y wr y1 y2).mono ?_
        rintro e w2 ⟨rfl, hb2⟩
        have HB2 := Lib.hid (HB.out.trans (hb2.mono HB.out.size))
        clear hb2 hcy hcx
        go_wp2_with fail
        go_roundw
        case rel => exact ⟨k + 1, _, by omega, by omega, by go_num, rfl, by rw [size_app, size_app]; have : (⟨#[32, 45]⟩ : ByteArray).size = 2 := rfl; omega, by show _ = _; rw [data_app, data_app, decS_data, HO.out, HP.out, HX.out], HB2.out⟩
        case measure => simp [intOf]; omega
    · obtain rfl : n = k := by omega
      have HE := Lib.hid (sfL_all hk1 HLen.out)
      have HB := Lib.hid hbel
      clear hbel
      go_wp2_with fail
      go_ret
      exact ⟨ret_str (str_ext (by rw [HO.out, data_mk, HE.out])), HB.out⟩
theorem specSgt_any (A : Option Addr) (n cap : Nat) (zs : List (Int × Int)) (w : World) (h : PRow w A n zs) :
    Calls Tryz.prog 32 #[.slice A n cap] w fun e w' => e = .returned (.string (sgS zs)) ∧ Below w.heap.size w w' := by
  have HV := Lib.hid (l04Ok_any A n cap zs w h)
  cases hv : sgnB zs
  · rw [show sgS zs = ⟨#[]⟩ from if_neg (by rw [hv]; decide)]
    rw [hv] at HV
    go_enter Tryz.func32, Tryz.ntmps32
    go_wp2_with fail
    refine HV.out.mono ?_
    rintro e w' ⟨rfl, rfl⟩
    go_wp2_with fail
    go_ret
    exact ⟨rfl, Below.refl _ _⟩
  · rw [show sgS zs = ⟨(sgL zs).toArray⟩ from if_pos hv]
    rw [hv] at HV
    have HT := Lib.hid (l04Text_any A n cap zs w h hv)
    clear h hv
    go_enter Tryz.func32, Tryz.ntmps32
    go_wp2_with fail
    refine HV.out.mono ?_
    rintro e w' ⟨rfl, rfl⟩
    go_wp2_with fail
    refine HT.out.mono ?_
    rintro e w1 ⟨rfl, hb⟩
    have HB := Lib.hid hb
    clear hb
    go_wp2_with fail
    go_ret
    exact ⟨rfl, HB.out⟩
set_option maxRecDepth 100000 in
set_option maxHeartbeats 3200000 in
theorem implSgt_any (A : Option Addr) (n cap : Nat) (zs : List (Int × Int)) (w : World) (h : PRow w A n zs) (hcap : n ≤ cap) (hd : Dr w) :
    Calls Tryz.prog 25 #[.slice A n cap] w fun e w' => e = .returned (.string (sgS zs)) ∧ Below w.heap.size w w' := by
  have HV := Lib.hid (validSigned_any A n cap zs w h hcap)
  cases hv : sgnB zs
  · rw [show sgS zs = ⟨#[]⟩ from if_neg (by rw [hv]; decide)]
    rw [hv] at HV
    go_enter Tryz.func25, Tryz.ntmps25
    go_wp2_with fail
    refine HV.out.mono ?_
    rintro e w1 ⟨rfl, hb⟩
    have HB := Lib.hid hb
    clear hb
    go_wp2_with fail
    go_ret
    exact ⟨rfl, HB.out⟩
  · rw [show sgS zs = ⟨(sgL zs).toArray⟩ from if_pos hv]
    rw [hv] at HV
    obtain ⟨h1, hn, hsg⟩ := sgn_in hv
    rw [h.len] at h1 hn
    obtain ⟨bb, oo, s, z, rfl, hz, _, _, z1, z2, _, hc⟩ := h.at_ (k := 0) (by omega)
    simp only [Nat.zero_mul, Nat.add_zero] at hc
    have hhd : (zs.headD (0, 0)).2 = z := by cases zs with | nil => cases hz | cons a r => simp at hz; simp [hz]
    have hs1 : (decS z).size ≤ 21 := decS_size z1 z2
    have HW := Lib.hid h
    have HH := Lib.hid hhd
    have HLen := Lib.hid h.len
    have HS := Lib.hid hsg
    have HD := Lib.hid hd
    have hbl := World.block_lt_of_cell? w _ hc
    have HC := Lib.hid hc
    clear h hz hhd hsg hv hd hc
    go_enter Tryz.func25, Tryz.ntmps25
    go_wp2_with fail
    refine HV.out.mono ?_
    rintro e w1 ⟨rfl, hb⟩
    have hc1 : w1.cell? ⟨bb, oo + 1, none⟩ = some (.int .i64 z) := (hb.cell (p := ⟨bb, oo + 1, none⟩) hbl).trans HC.out
    have HB1 := Lib.hid hb
    clear hb
    go_wp2_with fail
    refine (decimal_any z w1 z1 z2 (HD.out.below HB1.out)).mono ?_
    rintro e w2 ⟨rfl, hb⟩
    have HB2 := Lib.hid (HB1.out.trans (hb.mono HB1.out.size))
    clear hb hc1
    by_cases hc1 : cap = 1
    · obtain rfl : n = 1 := by omega
      subst hc1
      have HE := Lib.hid (sfL_all (Nat.le_refl 1) HLen.out)
      have HP := Lib.hid (sfL_one zs)
      go_wp2_with fail
      go_loopw [3, 18] (fun a i wr => a = .string (decS z) ∧ i = .int .i64 0 ∧ Below w.heap.size w wr) (fun _ _ _ => 0)
      case atStart => exact ⟨rfl, rfl, HB2.out⟩
      case round =>
        obtain ⟨rfl, rfl, hbel⟩ := hrel
        have HB := Lib.hid hbel
        clear hbel
        go_wp2_with fail
        go_ret
        exact ⟨ret_str (str_ext (by rw [decS_data, data_mk, HE.out, HP.out, HH.out])), HB.out⟩
    · have HWt := Lib.hid (HW.out.tail h1)
      go_wp2_with fail
      go_loopw [3, 18] (fun a i wr => ∃ (k : Nat) (o : ByteArray), k ≤ n - 1 ∧ i = .int .i64 k ∧ a = .string o ∧ o.size ≤ 30 * (k + 1) ∧ Hid (o.data.toList = sfL zs (k + 1)) ∧ Below w.heap.size w wr) (fun _ i _ => n - 1 - (intOf i).toNat)
      case atStart => exact ⟨0, _, Nat.zero_le _, rfl, rfl, by omega, by show _ = _; rw [decS_data, sfL_one, HH.out], HB2.out⟩
      case round =>
        obtain ⟨k, o, hkn, rfl, rfl, ho, HO, hbel⟩ := hrel
        by_cases hlt : k < n - 1
        · obtain ⟨b', o', x, y, e, hy, _, _, y1, y2, hcx, hcy⟩ := (HWt.out.below hbel).at_ hlt
          injection e with e
          injection e with e1 e2
          subst e1 e2
          rw [List.getElem?_tail] at hy
          have hs2 : (decS y).size ≤ 21 := decS_size y1 y2
          have HP := Lib.hid (sfL_step (show 1 ≤ k + 1 by omega) hy)
          have hx := (HS.out _ (List.mem_of_getElem? hy)).1
          simp only at hx
          have HB := Lib.hid hbel
          have hk60 : k ≤ 60 := by omega
          clear hy hbel
          rcases hx with hx | hx
          · have HX := Lib.hid (show mkS x = [32, 43] by unfold mkS; first | rw [if_pos (by omega)] | rw [if_neg (by omega)])
            subst hx
            go_wp2_with fail
            refine (decimal_any y _ y1 y2 ((HD.out.below HB.out).below ((Below.refl _ _).alloc (Nat.le_refl _) _))).mono ?_
            rintro e w3 ⟨rfl, hb3⟩
            have HB3 := Lib.hid ((HB.out.alloc HB.out.size _).trans (hb3.mono (by have := HB.out.size; simp; omega)))
            clear hb3 hcy hcx
            go_wp2_with fail
            go_roundw
            case rel => exact ⟨k + 1, _, by omega, by go_num, rfl, by rw [size_app, size_app]; have : (⟨#[32, 43]⟩ : ByteArray).size = 2 := rfl; omega, by show _ = _; rw [data_app, data_app, decS_data, HO.out, HP.out, HX.out], HB3.out⟩
            case measure => simp [intOf]; omega
          · have HX := Lib.hid (show mkS x = [32, 45] by unfold mkS; first | rw [if_pos (by omega)] | rw [if_neg (by omega)])
            subst hx
            go_wp2_with fail
            refine (decimal_any y _ y1 y2 ((HD.out.below HB.out).below ((Below.refl _ _).alloc (Nat.le_refl _) _))).mono ?_
            rintro e w3 ⟨rfl, hb3⟩
            have HB3 := Lib.hid ((HB.out.alloc HB.out.size _).trans (hb3.mono (by have := HB.out.size; simp; omega)))
            clear hb3 hcy hcx
            go_wp2_with fail
            go_roundw
            case rel => exact ⟨k + 1, _, by omega, by go_num, rfl, by rw [size_app, size_app]; have : (⟨#[32, 45]⟩ : ByteArray).size = 2 := rfl; omega, by show _ = _; rw [data_app, data_app, decS_data, HO.out, HP.out, HX.out], HB3.out⟩
            case measure => simp [intOf]; omega
        · have hkn2 : n = k + 1 := by omega
          have HE := Lib.hid (sfL_all (zs := zs) (show 1 ≤ k + 1 by omega) (by rw [HLen.out]; exact hkn2))
          have HB := Lib.hid hbel
          clear hbel hkn2
          go_wp2_with fail
          go_ret
          exact ⟨ret_str (str_ext (by rw [HO.out, data_mk, HE.out])), HB.out⟩
end Go.Proofs.YtlpglibnjmjjkaaGreatDoor
namespace Go.Proofs.YtlpglibnjmjjkaaGreatDoor
open Go.Lib
set_option linter.unusedVariables false

/-- Pieces with blanks between them. -/
def jnT : List (List UInt8) → List UInt8
  | [] => []
  | p :: r => 32 :: (p ++ jnT r)
def jnL : List (List UInt8) → List UInt8
  | [] => []
  | p :: r => p ++ jnT r
theorem splL_app (c : UInt8) : ∀ (a b : List UInt8), a.count c = 0 → splL c (a ++ c :: b) = a :: splL c b
  | [], b, _ => splL_eq c b
  | x :: a, b, h => by
    have hx : x ≠ c := fun e => by subst e; rw [List.count_cons_self] at h; omega
    rw [List.count_cons_of_ne (fun e => hx e)] at h
    rw [List.cons_append, splL_cons hx, splL_app c a b h]; rfl
theorem splL_jn : ∀ (ps : List (List UInt8)) (p : List UInt8), (∀ q ∈ p :: ps, q.count 32 = 0) → splL 32 (jnL (p :: ps)) = p :: ps
  | [], p, h => by
    show splL 32 (p ++ []) = _
    rw [List.append_nil, splL_none 32 p (h p (by simp))]
  | q :: ps, p, h => by
    show splL 32 (p ++ 32 :: jnL (q :: ps)) = _
    rw [splL_app 32 p _ (h p (by simp)), splL_jn ps q (fun x hx => h x (by simp at hx ⊢; exact .inr hx))]
theorem jn_pre (b : UInt8) : ∀ ps : List (List UInt8), ps ≠ [] → jnL (preP [b] ps) = b :: jnL ps
  | p :: r, _ => rfl
theorem jn_spl : ∀ l : List UInt8, jnL (splL 32 l) = l
  | [] => rfl
  | b :: r => by
    have ih := jn_spl r
    have hne := splL_ne 32 r
    by_cases hb : b = 32
    · subst hb
      rw [splL_eq]
      match hs : splL 32 r, hne with
      | p :: t, _ =>
        rw [hs] at ih
        show 32 :: (p ++ jnT t) = _
        rw [show p ++ jnT t = r from ih]
    · rw [splL_cons hb, jn_pre b _ hne, ih]
/-- One piece behind the first, read: as the reference reads it, as the program does. -/
def rs1 : List UInt8 → Option (Int × Int)
  | [] => none
  | b :: r => if b = 43 then (if rdB r = true then some (1, valI r) else none) else if b = 45 then (if rdB r = true then some (-1, valI r) else none) else none
def rl1 : List UInt8 → Option (Int × Int)
  | [] => none
  | b :: r => if b = 43 then (if rdB r = true then some (1, valI r) else none) else if b = 45 then (if rdB r = true then some (-1, valI r) else none) else if rdB (b :: r) = true then some (-1, valI (b :: r)) else none
def rd1 (p : List UInt8) : Option (Int × Int) := if rdB p = true then some (1, valI p) else none
def rsE (j : Nat) (p : List UInt8) : Option (Int × Int) := if j = 0 then rd1 p else rs1 p
def rlE (j : Nat) (p : List UInt8) : Option (Int × Int) := if j = 0 then rd1 p else rl1 p
/-- All pieces read. -/
def AllR (E : Nat → List UInt8 → Option (Int × Int)) (ls : List (List UInt8)) (zs : List (Int × Int)) : Prop := zs.length = ls.length ∧ ∀ j p, ls[j]? = some p → E j p = zs[j]?
theorem AllR.uniq {E : Nat → List UInt8 → Option (Int × Int)} {ls : List (List UInt8)} {zs zs' : List (Int × Int)} (h : AllR E ls zs) (h' : AllR E ls zs') : zs = zs' := by
  apply List.ext_getElem?
  intro j
  cases hp : ls[j]? with
  | none =>
    have := List.getElem?_eq_none_iff.1 hp
    rw [List.getElem?_eq_none (by rw [h.1]; exact this), List.getElem?_eq_none (by rw [h'.1]; exact this)]
  | some p => rw [← h.2 j p hp, ← h'.2 j p hp]
/-- The terms with signs that a text spells. -/
def Rg (s : ByteArray) (zs : List (Int × Int)) : Prop := AllR rsE (splL 32 s.data.toList) zs ∧ sgnB zs = true
/-- What is read: the terms and true, or none and false. -/
def RgR (s : ByteArray) (R : List (Int × Int)) (b : Bool) : Prop := (b = true ∧ Rg s R) ∨ (b = false ∧ R = [] ∧ ∀ zs, ¬ Rg s zs)
theorem RgR.exists (s : ByteArray) : ∃ R b, RgR s R b := by
  by_cases h : ∃ zs, Rg s zs
  · obtain ⟨zs, h⟩ := h; exact ⟨zs, true, .inl ⟨rfl, h⟩⟩
  · exact ⟨[], false, .inr ⟨rfl, rfl, fun zs hz => h ⟨zs, hz⟩⟩⟩
theorem RgR.no {s : ByteArray} {R : List (Int × Int)} {b : Bool} (h : RgR s R b) (hn : ∀ zs, ¬ Rg s zs) : b = false ∧ R = [] := by
  rcases h with ⟨_, h⟩ | ⟨h1, h2, _⟩
  · exact absurd h (hn R)
  · exact ⟨h1, h2⟩
theorem RgR.yes {s : ByteArray} {R zs : List (Int × Int)} {b : Bool} (h : RgR s R b) (hz : Rg s zs) : b = true ∧ R = zs := by
  rcases h with ⟨h1, h⟩ | ⟨_, _, h⟩
  · exact ⟨h1, h.1.uniq hz.1⟩
  · exact absurd hz (h zs)
/-- A piece that cannot be read. -/
theorem Rg.not {s : ByteArray} {j : Nat} {p : List UInt8} (h : (splL 32 s.data.toList)[j]? = some p) (he : rsE j p = none) : ∀ zs, ¬ Rg s zs := by
  intro zs hz
  have h1 := hz.1.2 j p h
  rw [he] at h1
  have h2 := List.getElem?_eq_none_iff.1 h1.symm
  have h3 := (List.getElem?_eq_some_iff.1 h).1
  have := hz.1.1
  omega
theorem rs1_p (r : List UInt8) : rs1 (43 :: r) = (if rdB r = true then some (1, valI r) else none) := rfl
theorem rs1_m (r : List UInt8) : rs1 (45 :: r) = (if rdB r = true then some (-1, valI r) else none) := rfl
theorem rs1_o {b : UInt8} (r : List UInt8) (h1 : b ≠ 43) (h2 : b ≠ 45) : rs1 (b :: r) = none := by unfold rs1; simp [h1, h2]
theorem rl1_p (r : List UInt8) : rl1 (43 :: r) = (if rdB r = true then some (1, valI r) else none) := rfl
theorem rl1_m (r : List UInt8) : rl1 (45 :: r) = (if rdB r = true then some (-1, valI r) else none) := rfl
theorem rl1_o {b : UInt8} (r : List UInt8) (h1 : b ≠ 43) (h2 : b ≠ 45) : rl1 (b :: r) = if rdB (b :: r) = true then some (-1, valI (b :: r)) else none := by unfold rl1; simp [h1, h2]
theorem rl_none {j : Nat} {p : List UInt8} (h : rlE j p = none) : rsE j p = none := by
  unfold rlE at h
  unfold rsE
  by_cases hj : j = 0
  · rw [if_pos hj] at h ⊢; exact h
  · rw [if_neg hj] at h ⊢
    match p, h with
    | [], _ => rfl
    | b :: r, h =>
      by_cases h1 : b = 43
      · subst h1; exact h
      · by_cases h2 : b = 45
        · subst h2; exact h
        · exact rs1_o r h1 h2
def sgB (s : Int) : UInt8 := if s < 0 then 45 else 43
/-- The pieces of the text of terms with signs. -/
def pcsR (r : List (Int × Int)) : List (List UInt8) := r.map fun z => sgB z.1 :: itoa z.2
def pcs : List (Int × Int) → List (List UInt8)
  | [] => []
  | z :: r => itoa z.2 :: pcsR r
theorem jnT_pcs : ∀ r : List (Int × Int), jnT (pcsR r) = stL r
  | [] => rfl
  | z :: r => by
    show 32 :: (sgB z.1 :: itoa z.2 ++ jnT (pcsR r)) = mkS z.1 ++ itoa z.2 ++ stL r
    rw [jnT_pcs r]
    unfold sgB mkS
    split <;> simp
theorem jn_pcs (zs : List (Int × Int)) : jnL (pcs zs) = sgL zs := by
  cases zs with
  | nil => rfl
  | cons z r => show itoa z.2 ++ jnT (pcsR r) = itoa z.2 ++ stL r; rw [jnT_pcs]
theorem itoa_no32 (n : Int) : (itoa n).count 32 = 0 := by
  rw [List.count_eq_zero]
  intro hm
  have hb := itoa_bytes n 32 hm
  have : (32 : UInt8).toNat = 32 := by decide
  omega
theorem spl_pcs {zs : List (Int × Int)} (h : zs ≠ []) : splL 32 (sgL zs) = pcs zs := by
  rw [← jn_pcs]
  match zs, h with
  | z :: r, _ =>
    refine splL_jn (pcsR r) (itoa z.2) (fun q hq => ?_)
    rcases List.mem_cons.1 hq with hq | hq
    · rw [hq]; exact itoa_no32 _
    · unfold pcsR at hq
      obtain ⟨y, _, rfl⟩ := List.mem_map.1 hq
      have : (sgB y.1 :: itoa y.2).count 32 = (itoa y.2).count 32 := List.count_cons_of_ne (by unfold sgB; split <;> decide)
      rw [this]; exact itoa_no32 _
theorem rd1_nil : rd1 [] = none := by
  unfold rd1
  rw [if_neg]
  intro h
  exact (rdB_form h).2.2.2.1 rfl
theorem rs_sign {p : List UInt8} {z : Int × Int} (h : rs1 p = some z) : p = sgB z.1 :: itoa z.2 := by
  match p, h with
  | [], h => cases h
  | b :: r, h =>
    by_cases h1 : b = 43
    · subst h1
      rw [rs1_p] at h
      split at h
      · next hr => injection h with h; subst h; show _ = 43 :: itoa (valI r); rw [(rdB_iff.1 hr).2]
      · cases h
    · by_cases h2 : b = 45
      · subst h2
        rw [rs1_m] at h
        split at h
        · next hr => injection h with h; subst h; show _ = 45 :: itoa (valI r); rw [(rdB_iff.1 hr).2]
        · cases h
      · rw [rs1_o r h1 h2] at h; cases h
theorem rl_rs {p : List UInt8} {b : UInt8} {r : List UInt8} (hp : p = b :: r) (h : b = 43 ∨ b = 45) : rl1 p = rs1 p := by
  subst hp
  rcases h with rfl | rfl <;> rfl
/-- Loosely read terms have the text if and only if they are the terms that it spells. -/
theorem rl_text {s : ByteArray} {zs : List (Int × Int)} (h : AllR rlE (splL 32 s.data.toList) zs) : sgS zs = s ↔ Rg s zs := by
  have hne : zs ≠ [] := fun e => by
    have h1 := h.1
    rw [e] at h1
    exact splL_ne 32 s.data.toList (List.eq_nil_of_length_eq_zero h1.symm)
  have h0 : ∀ p, (splL 32 s.data.toList)[0]? = some p → rd1 p = zs[0]? := fun p hp => h.2 0 p hp
  constructor
  · intro e
    have hv : sgnB zs = true := by
      cases hv : sgnB zs
      · exfalso
        rw [show sgS zs = ⟨#[]⟩ from if_neg (by rw [hv]; decide)] at e
        rw [← e] at h0
        have := h0 [] rfl
        rw [rd1_nil] at this
        match zs, hne with
        | z :: r, _ => cases this
      · rfl
    refine ⟨⟨h.1, fun j p hp => ?_⟩, hv⟩
    rw [← h.2 j p hp]
    unfold rsE rlE
    split
    · rfl
    · next hj =>
      have hd : s.data.toList = sgL zs := by
        rw [← e, show sgS zs = ⟨(sgL zs).toArray⟩ from if_pos hv, data_mk]
      rw [hd, spl_pcs hne] at hp
      match zs, hne with
      | z :: r, _ =>
        obtain ⟨i, rfl⟩ : ∃ i, j = i + 1 := ⟨j - 1, by omega⟩
        have hp' : (pcsR r)[i]? = some p := hp
        unfold pcsR at hp'
        rw [List.getElem?_map] at hp'
        cases hy : r[i]? with
        | none => rw [hy] at hp'; cases hp'
        | some y =>
          rw [hy] at hp'
          injection hp' with hp'
          exact (rl_rs hp'.symm (by unfold sgB; split; exact .inr rfl; exact .inl rfl)).symm
  · intro hR
    refine str_ext ?_
    rw [show sgS zs = ⟨(sgL zs).toArray⟩ from if_pos hR.2, data_mk, ← jn_pcs, ← jn_spl s.data.toList]
    congr 1
    match zs, hne with
    | z :: r, _ =>
      apply List.ext_getElem?
      intro j
      cases hp : (splL 32 s.data.toList)[j]? with
      | none =>
        have hl := List.getElem?_eq_none_iff.1 hp
        rw [List.getElem?_eq_none]
        have := hR.1.1
        show (itoa z.2 :: pcsR r).length ≤ j
        unfold pcsR
        simp at this ⊢; omega
      | some p =>
        have hz := hR.1.2 j p hp
        cases j with
        | zero =>
          have hz : rd1 p = some z := hz
          unfold rd1 at hz
          split at hz
          · next hr =>
            injection hz with hz
            show some (itoa z.2) = some p
            rw [← hz, (rdB_iff.1 hr).2]
          · cases hz
        | succ i =>
          have hz : rs1 p = r[i]? := hz
          show (pcsR r)[i]? = some p
          unfold pcsR
          rw [List.getElem?_map]
          cases hy : r[i]? with
          | none =>
            exfalso
            have h1 := List.getElem?_eq_none_iff.1 hy
            have h2 := (List.getElem?_eq_some_iff.1 hp).1
            have := hR.1.1
            simp at this; omega
          | some y =>
            rw [hy] at hz
            rw [rs_sign hz]; rfl
theorem AllR.start {E : Nat → List UInt8 → Option (Int × Int)} : AllR E [] [] := ⟨rfl, fun j p h => by simp at h⟩
theorem AllR.step {E : Nat → List UInt8 → Option (Int × Int)} {ls : List (List UInt8)} {k : Nat} {p : List UInt8} {zs : List (Int × Int)} {z : Int × Int} (h : AllR E (ls.take k) zs) (hp : ls[k]? = some p) (hz : E k p = some z) : AllR E (ls.take (k + 1)) (zs ++ [z]) := by
  have hk := (List.getElem?_eq_some_iff.1 hp).1
  have hl : zs.length = k := by rw [h.1, List.length_take]; omega
  refine ⟨by rw [List.length_append, hl, List.length_take]; simp; omega, fun j q hq => ?_⟩
  rw [List.getElem?_take] at hq
  split at hq
  · next hj =>
    by_cases hjk : j = k
    · subst hjk
      rw [hp] at hq
      injection hq with hq
      rw [← hq, hz, List.getElem?_append_right (by omega), hl]; simp
    · rw [List.getElem?_append_left (by omega)]
      exact h.2 j q (by rw [List.getElem?_take, if_pos (by omega)]; exact hq)
  · cases hq
theorem AllR.all {E : Nat → List UInt8 → Option (Int × Int)} {ls : List (List UInt8)} {zs : List (Int × Int)} (h : AllR E (ls.take ls.length) zs) : AllR E ls zs := by rwa [List.take_length] at h
end Go.Proofs.YtlpglibnjmjjkaaGreatDoor
namespace Go.Proofs.YtlpglibnjmjjkaaGreatDoor
open Go.RowKit
set_option linter.unusedVariables false
set_option linter.unusedSimpArgs false
attribute [local go_sem ↓] Go.wp_at_zero Go.wp_at_succ

theorem own_kg {g : Nat} {w w' : World} {base e size n : Nat} {v : Value} {xs : List Value} (h : w.ownsRow base e size v n xs) (hk : Kg g w w') (hg : g < base) : w'.ownsRow base e size v n xs := by
  refine ⟨h.1, ?_⟩
  rcases h.2 with hn | ⟨b, cap, cur, rfl, hbb, hgg, rest⟩
  · exact .inl hn
  · refine .inr ⟨b, cap, cur, rfl, hbb, ?_, rest⟩
    rw [hk.2 b (Array.getElem?_eq_some_iff.1 hgg).1 (by omega)]
    exact hgg
/-- Drawn terms. -/
def DrwT (fs : List Int) : Prop := ∀ (j : Nat) z, fs[j]? = some z → (if j = 0 then -10 else 1) ≤ z ∧ z ≤ 60
theorem DrwT.one {z : Int} (h1 : -10 ≤ z) (h2 : z ≤ 60) : DrwT [z] := fun j y h => by
  cases j with
  | zero => simp at h; subst h; simp; omega
  | succ j => cases h
theorem DrwT.app {fs : List Int} {z : Int} (h : DrwT fs) (hl : 1 ≤ fs.length) (h1 : 1 ≤ z) (h2 : z ≤ 60) : DrwT (fs ++ [z]) := fun j y hy => by
  rw [List.getElem?_append] at hy
  split at hy
  · exact h j y hy
  · rename_i hj
    have : y = z := by
      cases hk : j - fs.length with
      | zero => rw [hk] at hy; simp at hy; exact hy.symm
      | succ i => rw [hk] at hy; simp at hy
    subst this
    rw [if_neg (by omega)]; omega
theorem St.grown {g : Nat} {A : Option Addr} {n cap K : Nat} {w0 w w1 : World} {row : Option Nat} (h : St g A n cap K w0 w) (hg : w.grownBy w1 row) (hr : row ≠ some g) (hB : ∀ k, row = some k → w0.heap.size ≤ k) : St g A n cap K w0 w1 := by
  have hl := h.lt
  obtain ⟨⟨k, h1, c0, c1, f1, f2, s, s0, s1, c2⟩, h3⟩ := h
  have e : w1.heap[g]? = w.heap[g]? := hg.block g hl (fun e => hr e.symm)
  have ec : ∀ o, w1.cell? ⟨g, o, none⟩ = w.cell? ⟨g, o, none⟩ := fun o => World.cell?_of_block (w := w) e
  have ef : ∀ o, w1.frozen? ⟨g, o, none⟩ = w.frozen? ⟨g, o, none⟩ := fun o => World.frozen?_of_block (w := w) e
  exact ⟨⟨k, h1, (ec 0).trans c0, (ec 1).trans c1, (ef 1).trans f1, (ef 2).trans f2, s, s0, s1, (ec 2).trans c2⟩, h3.grown hg h3.size hB⟩
end Go.Proofs.YtlpglibnjmjjkaaGreatDoor
namespace Go.Proofs.YtlpglibnjmjjkaaGreatDoor
open Go.RowKit
set_option linter.unusedVariables false
set_option linter.unusedSimpArgs false
attribute [local go_sem ↓] Go.wp_at_zero Go.wp_at_succ

/-- The words of a text. -/
def wdF (ls : List (List UInt8)) : List (List UInt8) := ls.filter (fun p => decide (p ≠ []))
def wdL (l : List UInt8) : List (List UInt8) := wdF (splL 32 l)
theorem wdF_step {ls : List (List UInt8)} {k : Nat} {p : List UInt8} (h : ls[k]? = some p) : wdF (ls.take (k + 1)) = if p = [] then wdF (ls.take k) else wdF (ls.take k) ++ [p] := by
  unfold wdF
  rw [List.take_add_one, h, List.filter_append]
  by_cases hp : p = [] <;> simp [hp]
theorem wdF_len (ls : List (List UInt8)) : (wdF ls).length ≤ ls.length := List.length_filter_le _ _
theorem splL_len_le (c : UInt8) (l : List UInt8) : (splL c l).length ≤ l.length + 1 := by
  rw [splL_len]; have := List.count_le_length (a := c) (l := l); omega
theorem splitAny (s : ByteArray) (c : UInt8) (w : World) (hs : s.size ≤ 1048576) (hm : Mx w) :
    Calls Tryz.prog 50 #[.string s, .string ⟨#[c]⟩] w fun e w' => ∃ ts : List ByteArray, e = .returned (.slice (some ⟨w.heap.size, 0, none⟩) ts.length ts.length) ∧ ts.map (fun t : ByteArray => t.data.toList) = splL c s.data.toList ∧
      (∀ (k : Nat) t, ts[k]? = some t → w'.cell? ⟨w.heap.size, k, none⟩ = some (.string t)) ∧ Below w.heap.size w w' ∧ w.heap.size < w'.heap.size := by
  obtain ⟨m, hm⟩ := hm
  refine (Tryz.strings_Split s ⟨#[c]⟩ m w (by omega) hm (Nat.le_refl 1)).mono ?_
  rintro e w' ⟨he, hw⟩
  have e1 := splitB_spl c s
  have e2 := countB_spl c s
  generalize Lib.splitB ⟨#[c]⟩ 0 (Lib.countB s ⟨#[c]⟩) s = ts at *
  have e3 : ts.length = Lib.countB s ⟨#[c]⟩ + 1 := by rw [e2, ← e1, List.length_map]
  refine ⟨ts, by rw [e3]; exact he, e1, fun k t ht => ?_, ?_, by rw [hw]; simp⟩
  · rw [hw]
    exact newcellA rfl (by simp [ht])
  · rw [hw]; exact (Below.refl _ _).alloc (Nat.le_refl _) _
end Go.Proofs.YtlpglibnjmjjkaaGreatDoor
