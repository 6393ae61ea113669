/-
  Numbers read from texts: contracts of the program's and of the reference's functions; the walk of the law FnExactReadDecimal.
  The table of the powers of ten and the two errors of strconv hold what their initialisers lay; texts are not longer than 1048576.
-/
import Derived.Test.YtnikogholldcmaaDoorProg
import Derived.Test.YtnikogholldcmaaDoorShelf
import Derived.Test.YtnikogholldcmaaDoorMem
import Derived.Test.YtnikogholldcmaaDoorBasic
import Derived.Test.YtnikogholldcmaaDoorOwn
import Derived.Test.YtnikogholldcmaaDoorNumM
import Derived.Test.YtnikogholldcmaaDoorDec
import Derived.Stop.LaidErr
import Derived.Lib.ParseIntBTie
import Derived.Handy
import Derived.BigQuiet
import Derived.Deep.QuietTactic
namespace Go.Proofs.YtnikogholldcmaaDoor
open Go.RowKit
set_option linter.unusedVariables false
set_option linter.unusedSimpArgs false
attribute [local go_sem ↓] Go.wp_at_zero Go.wp_at_succ

theorem var_below {w w' : World} {n : String} {cs : Array Value} (h : w.var? Tryd.prog n = some cs) (hb : Below w.heap.size w w') : w'.var? Tryd.prog n = some cs := by
  unfold World.var? at *
  cases hg : (Tryd.prog).globalNamed n with
  | none => simp [hg] at h
  | some g =>
    simp only [hg, Option.bind_some] at h ⊢
    have hlt : g < w.heap.size := by
      rcases Nat.lt_or_ge g w.heap.size with h' | h'
      · exact h'
      · rw [Array.getElem?_eq_none h'] at h; cases h
    rw [hb.block g hlt]
    exact h
/-- The two errors hold values of interfaces. -/
def Er (w : World) : Prop := (∃ tp p, w.var? Tryd.prog "strconv.ErrSyntax" = some #[.iface tp p]) ∧ (∃ tp p, w.var? Tryd.prog "strconv.ErrRange" = some #[.iface tp p])
theorem Er.below {w w' : World} (h : Er w) (hb : Below w.heap.size w w') : Er w' := by
  obtain ⟨⟨t1, p1, h1⟩, ⟨t2, p2, h2⟩⟩ := h
  exact ⟨⟨t1, p1, var_below h1 hb⟩, ⟨t2, p2, var_below h2 hb⟩⟩
theorem below_bytes (w : World) (t : ByteArray) : Below w.heap.size w (Lib.bytesWorld w 5 t) :=
  ⟨rfl, rfl, rfl, by rw [Lib.bytesWorld_size]; omega, fun j hj => Lib.bytesWorld_at_old w _ t j hj⟩
/-- What is read from a text. -/
def rdT (s : ByteArray) : Int × Bool := if rdB s.data.toList = true then (valI s.data.toList, true) else (0, false)
theorem rdT_t {s : ByteArray} (h : rdB s.data.toList = true) : rdT s = (valI s.data.toList, true) := if_pos h
theorem rdT_f {s : ByteArray} (h : rdB s.data.toList = false) : rdT s = (0, false) := if_neg (by rw [h]; decide)
theorem rdT_bd (s : ByteArray) : -1000000000000000000 ≤ (rdT s).1 ∧ (rdT s).1 ≤ 1000000000000000000 := by
  unfold rdT
  split
  · rename_i h
    have := (rdB_form h).2.2.2.2
    simp only; omega
  · simp
theorem tm_trim (l : List UInt8) : Lib.trimPrefix l [45] = tmL l := by
  cases l with
  | nil => rfl
  | cons c r =>
    unfold tmL Lib.trimPrefix Lib.hasPrefix
    by_cases h : c.toNat = 45
    · have hc : c = 45 := UInt8.toNat_inj.1 h
      subst hc
      simp
    · have hc : ¬ (45 : UInt8) = c := fun e => h (by rw [← e]; decide)
      simp [h, hc]
theorem ret_ib {a b : Int} {c d : Bool} (h : a = b) (h' : c = d) : Ending.returned (.tuple #[.int .i64 a, .bool c]) = .returned (.tuple #[.int .i64 b, .bool d]) := by rw [h, h']
theorem decS_eq {n : Int} {s : ByteArray} : decS n = s ↔ Lib.itoa n = s.data.toList := by
  constructor
  · intro h; rw [← h, decS_data]
  · intro h; exact str_ext (by rw [decS_data, h])
theorem tl_t {a b : ByteArray} (h : a = b) : (a.toList == b.toList) = true := by rw [h]; exact beq_self_eq_true _
theorem tl_f {a b : ByteArray} (h : a ≠ b) : (a.toList == b.toList) = false := by
  rw [ByteArray.toList_eq, ByteArray.toList_eq]
  exact beq_eq_false_iff_ne.2 (fun e => h (str_ext e))
set_option maxRecDepth 100000 in
set_option maxHeartbeats 1600000 in
theorem readDecimal_any (s : ByteArray) (w : World) (hs : s.size ≤ 1048576) (hd : Dr w) (he : Er w) :
    Calls Tryd.prog 37 #[.string s] w fun e w' => e = .returned (.tuple #[.int .i64 (rdT s).1, .bool (rdT s).2]) ∧ Below w.heap.size w w' := by
  have HT := Lib.hid (Tryd.strings_TrimPrefix s ⟨#[45]⟩ w)
  rw [show (⟨#[45]⟩ : ByteArray).data.toList = [45] from rfl, tm_trim] at HT
  obtain ⟨⟨t1, p1, e1⟩, ⟨t2, p2, e2⟩⟩ := he
  have HP := Lib.hid (fun v h => Tryd.strconv_ParseInt_10_at64_ok s (by omega) v h w)
  have HS := Lib.hid (fun h1 h2 => Tryd.strconv_ParseInt_10_at64_bad_var s (by omega) h1 h2 t1 p1 w e1)
  have HR := Lib.hid (fun h => Tryd.strconv_ParseInt_10_at64_range_var s (by omega) h t2 p2 w e2)
  have HD := Lib.hid hd
  clear hd e1 e2
  by_cases hl : (tmL s.data.toList).length ≤ 18
  · have hl' : ¬ 18 < (tmL s.data.toList).length := by omega
    cases hp : Lib.parseIntB 64 s.data.toList with
    | ok v =>
      have hvb := Lib.parseIntB_bounds hp
      have hv1 : -9223372036854775808 ≤ v := by have := hvb.1; have e : ((2 ^ (64 - 1) : Nat) : Int) = 9223372036854775808 := by decide
                                                omega
      have hv2 : v ≤ 9223372036854775807 := by have := hvb.2; have e : ((2 ^ (64 - 1) : Nat) : Int) = 9223372036854775808 := by decide
                                               omega
      have HP' := Lib.hid (HP.out v hp)
      have hX : (decS v = s ∧ rdT s = (v, true)) ∨ (decS v ≠ s ∧ rdT s = (0, false)) := by
        by_cases hq : Lib.itoa v = s.data.toList
        · left
          have hval : valI s.data.toList = v := by rw [← hq, val_itoa]
          refine ⟨decS_eq.2 hq, ?_⟩
          rw [rdT_t (rdB_iff.2 ⟨hl, by rw [hval, hq]⟩), hval]
        · right
          refine ⟨fun e => hq (decS_eq.1 e), rdT_f ?_⟩
          cases hb : rdB s.data.toList
          · rfl
          · exfalso
            have := rd_ok hb
            rw [hp] at this
            injection this with this
            exact hq (by rw [this]; exact (rdB_iff.1 hb).2)
      clear HP HS HR hp hl hvb
      rcases hX with ⟨hq, hX⟩ | ⟨hq, hX⟩
      · rw [hX]
        have htl := tl_t hq
        clear hX hq
        go_enter Tryd.func37, Tryd.ntmps37
        go_wp2_with fail
        refine HT.out.mono ?_
        rintro e w' ⟨rfl, hw0⟩
        obtain rfl := hw0.symm
        go_wp2_with fail
        refine HP'.out.mono ?_
        rintro e w1 ⟨rfl, hw⟩
        have hb1 : Below w.heap.size w w1 := by
          rcases hw with rfl | ⟨t, rfl⟩
          · exact Below.refl _ _
          · exact below_bytes w t
        have HB1 := Lib.hid hb1
        clear hw hb1
        go_wp2_with fail
        refine (decimal_any v w1 hv1 hv2 (HD.out.below HB1.out)).mono ?_
        rintro e w2 ⟨rfl, hb2⟩
        have hB := HB1.out.trans (hb2.mono HB1.out.size)
        clear hb2
        go_wp2_with fail
        go_ret2
        exact ⟨rfl, hB⟩
      · rw [hX]
        have htl := tl_f hq
        clear hX hq
        go_enter Tryd.func37, Tryd.ntmps37
        go_wp2_with fail
        refine HT.out.mono ?_
        rintro e w' ⟨rfl, hw0⟩
        obtain rfl := hw0.symm
        go_wp2_with fail
        refine HP'.out.mono ?_
        rintro e w1 ⟨rfl, hw⟩
        have hb1 : Below w.heap.size w w1 := by
          rcases hw with rfl | ⟨t, rfl⟩
          · exact Below.refl _ _
          · exact below_bytes w t
        have HB1 := Lib.hid hb1
        clear hw hb1
        go_wp2_with fail
        refine (decimal_any v w1 hv1 hv2 (HD.out.below HB1.out)).mono ?_
        rintro e w2 ⟨rfl, hb2⟩
        have hB := HB1.out.trans (hb2.mono HB1.out.size)
        clear hb2
        go_wp2_with fail
        go_ret2
        exact ⟨rfl, hB⟩
    | range =>
      have HS' := Lib.hid (HR.out hp)
      have hX : rdT s = (0, false) := rdT_f (by
        cases hb : rdB s.data.toList
        · rfl
        · have := rd_ok hb
          rw [hp] at this
          cases this)
      rw [hX]
      clear HP HS HR hp hl hX
      go_enter Tryd.func37, Tryd.ntmps37
      go_wp2_with fail
      refine HT.out.mono ?_
      rintro e w' ⟨rfl, hw0⟩
      obtain rfl := hw0.symm
      go_wp2_with fail
      refine HS'.out.mono ?_
      rintro e w1 ⟨N, rfl, hN, _, hb⟩
      have HB := Lib.hid hb
      clear hb hN
      go_wp2_with fail
      go_ret2
      exact ⟨rfl, HB.out⟩
    | _ =>
      have HS' := Lib.hid (HS.out (fun v e => by rw [hp] at e; cases e) (fun e => by rw [hp] at e; cases e))
      have hX : rdT s = (0, false) := rdT_f (by
        cases hb : rdB s.data.toList
        · rfl
        · have := rd_ok hb
          rw [hp] at this
          cases this)
      rw [hX]
      clear HP HS HR hp hl hX
      go_enter Tryd.func37, Tryd.ntmps37
      go_wp2_with fail
      refine HT.out.mono ?_
      rintro e w' ⟨rfl, hw0⟩
      obtain rfl := hw0.symm
      go_wp2_with fail
      refine HS'.out.mono ?_
      rintro e w1 ⟨N, rfl, hN, _, hb⟩
      have HB := Lib.hid hb
      clear hb hN
      go_wp2_with fail
      go_ret2
      exact ⟨rfl, HB.out⟩
  · have hl' : 18 < (tmL s.data.toList).length := by omega
    rw [rdT_f (by unfold rdB; exact decide_eq_false (fun h => hl h.1))]
    clear HP HS HR hl
    go_enter Tryd.func37, Tryd.ntmps37
    go_wp2_with fail
    refine HT.out.mono ?_
    rintro e w' ⟨rfl, hw0⟩
    obtain rfl := hw0.symm
    go_wp2_with fail
    go_ret2
    exact ⟨rfl, Below.refl _ _⟩
end Go.Proofs.YtnikogholldcmaaDoor
