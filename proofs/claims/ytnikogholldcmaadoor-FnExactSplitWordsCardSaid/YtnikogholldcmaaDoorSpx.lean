/-
  The walk of the law FnExactSplitWords.
  The library's variable MaxLen holds a number.
-/
import Derived.Test.YtnikogholldcmaaDoorProg
import Derived.Test.YtnikogholldcmaaDoorMem
import Derived.Test.YtnikogholldcmaaDoorBasic
import Derived.Test.YtnikogholldcmaaDoorMarks
import Derived.Test.YtnikogholldcmaaDoorOwn
import Derived.Test.YtnikogholldcmaaDoorSpl
import Derived.Test.YtnikogholldcmaaDoorSpw
import Derived.Test.YtnikogholldcmaaDoorStr
import Derived.Handy
import Derived.BigQuiet
import Derived.Deep.QuietTactic
namespace Go.Proofs.YtnikogholldcmaaDoor
open Go.RowKit
set_option linter.unusedVariables false
set_option linter.unusedSimpArgs false
attribute [local go_sem ↓] Go.wp_at_zero Go.wp_at_succ

theorem retT_own {base : Nat} {ls : List (List UInt8)} {e : Ending} {w : World} (h : RetT base ls e w) :
    ∃ B c, e = .returned (.slice B ls.length c) ∧ w.ownsRow base 9 1 (.slice B ls.length c) ls.length ((ls.map fun p => (⟨p.toArray⟩ : ByteArray)).map Value.string) := by
  obtain ⟨A, c, ts, h1, h2, h3⟩ := h
  have e3 : ts = ls.map fun p => (⟨p.toArray⟩ : ByteArray) := by
    rw [← h3, List.map_map]
    conv => lhs; rw [← List.map_id ts]
    exact List.map_congr_left (fun t _ => str_ext (by simp))
  rw [e3] at h2
  exact ⟨A, c, h1, h2⟩
set_option maxHeartbeats 3200000 in
theorem fnExactSplitWords_walk (s : ByteArray) (hss : s.size ≤ 9223372036854775807) (w : World) (hm : Mx w) :
    Calls Tryd.prog 6 #[.string s] w fun e w' => e = .returned (.bool true) ∧ Below w.heap.size w w' := by
  by_cases hlong : (1048576 : Int) < s.size
  · go_enter Tryd.func6, Tryd.ntmps6
    go_wp2
    go_ret
    exact ⟨rfl, Below.refl _ _⟩
  have hs : s.size ≤ 1048576 := by omega
  obtain ⟨N, zs0, hN, HS, HI⟩ : ∃ (N : Nat) (zs0 : List ByteArray), N ≤ 1048577 ∧ Hid (∀ w : World, Calls Tryd.prog 23 #[.string s] w fun e w' => (∃ B c, e = .returned (.slice B N c) ∧ w'.ownsRow w.heap.size 9 1 (.slice B N c) N (zs0.map Value.string)) ∧ Below w.heap.size w w') ∧ Hid (∀ w : World, Mx w → Calls Tryd.prog 24 #[.string s] w fun e w' => (∃ B c, e = .returned (.slice B N c) ∧ w'.ownsRow w.heap.size 9 1 (.slice B N c) N (zs0.map Value.string)) ∧ Below w.heap.size w w') :=
    ⟨(wdL s.data.toList).length, (wdL s.data.toList).map fun p => (⟨p.toArray⟩ : ByteArray), by have h1 := wdF_len (splL 32 s.data.toList); have h2 := splL_len_le 32 s.data.toList; rw [len_size] at h2; show (wdF (splL 32 s.data.toList)).length ≤ _; omega, fun w => (specSpw_any s w hs).mono fun e w' h => ⟨retT_own h.1, h.2⟩, fun w hm => (implSpw_any s w hs hm).mono fun e w' h => ⟨retT_own h.1, h.2⟩⟩
  have HM := Lib.hid hm
  clear hm
  go_enter Tryd.func6, Tryd.ntmps6
  go_wp2_with fail
  refine (HS.out _).mono ?_
  rintro e w1 ⟨⟨A0, c0, rfl, oW⟩, hd1⟩
  have hb1 : Below w.heap.size w w1 := hd1
  have hs1 : w.heap.size ≤ w1.heap.size := hd1.size
  clear hd1
  have W_1 := Lib.hid oW
  have W_b := Lib.hid oW
  clear oW
  go_wp2_with fail
  refine (HI.out _ (HM.out.below hb1)).mono ?_
  rintro e w2 ⟨⟨A1, c1, rfl, oG⟩, hd2⟩
  have hb2 : Below w.heap.size w w2 := hb1.trans (hd2.mono hb1.size)
  have hs2 : w1.heap.size ≤ w2.heap.size := hd2.size
  have W_2 := Lib.hid (own_below W_1.out hd2)
  clear hd2 hb1
  have G_2 := Lib.hid oG
  have G_b := Lib.hid oG
  clear oG
  go_wp2_with fail
  refine (eqStringS_same A1 N c1 A0 c0 zs0 _ (TRow.of_own G_2.out (by omega)) (TRow.of_own W_2.out (by omega))).mono ?_
  rintro e w3 ⟨rfl, hd3⟩
  have hb3 : Below w.heap.size w w3 := hb2.trans (hd3.mono hb2.size)
  have hs3 : w2.heap.size ≤ w3.heap.size := hd3.size
  have W_3 := Lib.hid (own_below W_2.out hd3)
  have G_3 := Lib.hid (own_below G_2.out hd3)
  clear hd3 hb2
  go_wp2_with fail
  refine (markT_any A1 N c1 _ (zs0.map Value.string) 1 _ G_3.out (by omega) (by omega) (by omega)).mono ?_
  rintro e w4 ⟨rfl, ho4, hg4⟩
  have hb4 : Below w.heap.size w w4 := hb3.grown hg4 hb3.size (fun k hk => Nat.le_trans (by omega) (G_b.out.lt k hk).1)
  have hs4 : w3.heap.size ≤ w4.heap.size := hg4.size
  have W_4 := Lib.hid (W_3.out.kept hg4 (by cases h0 : (Value.slice A0 N c0).ownBlock with | none => exact Or.inl rfl | some j => exact Or.inr (fun e => by have a := (W_b.out.lt j h0).2; have b := (G_b.out.lt j e.symm).1; omega)))
  have G_4 := Lib.hid ho4
  clear hb3 hg4 ho4
  go_wp2_with fail
  refine (heldT_any A1 N c1 1 _ (TRow.of_own G_4.out (by omega)) (by omega) (by omega) (by omega)).mono ?_
  rintro e wx ⟨rfl, hdx⟩
  have hbx : Below w.heap.size w wx := hb4.trans (hdx.mono hb4.size)
  have hsx : w4.heap.size ≤ wx.heap.size := hdx.size
  have W_x := Lib.hid (own_below W_4.out hdx)
  have G_x := Lib.hid (own_below G_4.out hdx)
  clear hdx hb4
  go_wp2_with fail
  refine (HI.out _ (HM.out.below hbx)).mono ?_
  rintro e w5 ⟨⟨A2, c2, rfl, oH⟩, hd5⟩
  have hb5 : Below w.heap.size w w5 := hbx.trans (hd5.mono hbx.size)
  have hs5 : wx.heap.size ≤ w5.heap.size := hd5.size
  have W_5 := Lib.hid (own_below W_x.out hd5)
  have G_5 := Lib.hid (own_below G_x.out hd5)
  clear hd5 hbx
  have H_5 := Lib.hid oH
  have H_b := Lib.hid oH
  clear oH
  go_wp2_with fail
  refine (eqStringS_same A2 N c2 A0 c0 zs0 _ (TRow.of_own H_5.out (by omega)) (TRow.of_own W_5.out (by omega))).mono ?_
  rintro e w6 ⟨rfl, hd6⟩
  have hb6 : Below w.heap.size w w6 := hb5.trans (hd6.mono hb5.size)
  have hs6 : w5.heap.size ≤ w6.heap.size := hd6.size
  have W_6 := Lib.hid (own_below W_5.out hd6)
  have G_6 := Lib.hid (own_below G_5.out hd6)
  have H_6 := Lib.hid (own_below H_5.out hd6)
  clear hd6 hb5
  go_wp2_with fail
  refine (heldT_any A1 N c1 1 _ (TRow.of_own G_6.out (by omega)) (by omega) (by omega) (by omega)).mono ?_
  rintro e w7 ⟨rfl, hd7⟩
  have hb7 : Below w.heap.size w w7 := hb6.trans (hd7.mono hb6.size)
  clear hd7
  go_wp2_with fail
  go_ret
  exact ⟨rfl, hb7⟩
end Go.Proofs.YtnikogholldcmaaDoor
