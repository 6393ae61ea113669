/-
  The walk of the law FnExactReadTerms.
  The table of the powers of ten and the two errors of strconv hold what their initialisers lay; MaxLen holds a number.
-/
import Derived.Test.YtnikogholldcmaaDoorProg
import Derived.Test.YtnikogholldcmaaDoorMem
import Derived.Test.YtnikogholldcmaaDoorBasic
import Derived.Test.YtnikogholldcmaaDoorMarks
import Derived.Test.YtnikogholldcmaaDoorOwn
import Derived.Test.YtnikogholldcmaaDoorInts
import Derived.Test.YtnikogholldcmaaDoorSpl
import Derived.Test.YtnikogholldcmaaDoorDec
import Derived.Test.YtnikogholldcmaaDoorRdd
import Derived.Test.YtnikogholldcmaaDoorRtmM
import Derived.Test.YtnikogholldcmaaDoorRtm
import Derived.Test.YtnikogholldcmaaDoorRti
import Derived.Handy
import Derived.BigQuiet
import Derived.Deep.QuietTactic
namespace Go.Proofs.YtnikogholldcmaaDoor
open Go.RowKit
set_option linter.unusedVariables false
set_option linter.unusedSimpArgs false
attribute [local go_sem ↓] Go.wp_at_zero Go.wp_at_succ

theorem TgR.len {s : ByteArray} {R : List Int} {b : Bool} (h : TgR s R b) : R.length ≤ 1048577 := by
  rcases h with ⟨_, h⟩ | ⟨_, h, _⟩
  · have := (trmB_iff.1 h.1).2.1; omega
  · rw [h]; simp
theorem TgR.rng {s : ByteArray} {R : List Int} {b : Bool} (h : TgR s R b) : ∀ z ∈ R, Rng z := by
  rcases h with ⟨_, h⟩ | ⟨_, h, _⟩
  · exact h.words.rng (twE_rng _)
  · rw [h]; intro z hz; cases hz
set_option maxHeartbeats 3200000 in
theorem fnExactReadTerms_walk (s : ByteArray) (hss : s.size ≤ 9223372036854775807) (w : World) (hd : Dr w) (he : Er w) (hm : Mx w) :
    Calls Tryd.prog 3 #[.string s] w fun e w' => e = .returned (.bool true) ∧ Below w.heap.size w w' := by
  by_cases hlong : (1048576 : Int) < s.size
  · go_enter Tryd.func3, Tryd.ntmps3
    go_wp2
    go_ret
    exact ⟨rfl, Below.refl _ _⟩
  have hs : s.size ≤ 1048576 := by omega
  obtain ⟨R, b, hR⟩ := TgR.exists s
  obtain ⟨N, zs0, k, hN, hrg, HS, HI⟩ : ∃ (N : Nat) (zs0 : List Int) (k : Bool), N ≤ 1048577 ∧ (∀ z ∈ zs0, Rng z) ∧ Hid (∀ w : World, Calls Tryd.prog 13 #[.string s] w fun e w' => (∃ B c, e = .returned (.tuple #[.slice B N c, .bool k]) ∧ w'.ownsRow w.heap.size 2 1 (.slice B N c) N (zs0.map (Value.int .i64))) ∧ Below w.heap.size w w') ∧ Hid (∀ w : World, Dr w → Er w → Mx w → Calls Tryd.prog 14 #[.string s] w fun e w' => (∃ B c, e = .returned (.tuple #[.slice B N c, .bool k]) ∧ w'.ownsRow w.heap.size 2 1 (.slice B N c) N (zs0.map (Value.int .i64))) ∧ Below w.heap.size w w') :=
    ⟨R.length, R, b, hR.len, hR.rng, fun w => specRtm_any s w hs R b hR, fun w d e m => implRtm_any s w hs d e m R b hR⟩
  have HR := Lib.hid hrg
  clear hrg
  have HD := Lib.hid hd
  have HE := Lib.hid he
  have HM := Lib.hid hm
  clear hd he hm hR
  go_enter Tryd.func3, Tryd.ntmps3
  go_wp2_with fail
  refine (HS.out _).mono ?_
  rintro e w1 ⟨⟨A0, c0, rfl, oW⟩, hd1⟩
  have hb1 : Below w.heap.size w w1 := hd1
  have hs1 : w.heap.size ≤ w1.heap.size := hd1.size
  clear hd1
  have W_1 := Lib.hid oW
  have W_b := Lib.hid oW
  clear oW
  go_wp2_with fail
  refine (HI.out _ (HD.out.below hb1) (HE.out.below hb1) (HM.out.below hb1)).mono ?_
  rintro e w2 ⟨⟨A1, c1, rfl, oG⟩, hd2⟩
  have hb2 : Below w.heap.size w w2 := hb1.trans (hd2.mono hb1.size)
  have hs2 : w1.heap.size ≤ w2.heap.size := hd2.size
  have W_2 := Lib.hid (own_below W_1.out hd2)
  clear hd2 hb1
  have G_2 := Lib.hid oG
  have G_b := Lib.hid oG
  clear oG
  go_wp2_with fail
  refine (eqInt64S_same A1 N c1 A0 c0 zs0 _ (IRow.of_own G_2.out (by omega) HR.out) (IRow.of_own W_2.out (by omega) HR.out)).mono ?_
  rintro e w3 ⟨rfl, hd3⟩
  have hb3 : Below w.heap.size w w3 := hb2.trans (hd3.mono hb2.size)
  have hs3 : w2.heap.size ≤ w3.heap.size := hd3.size
  have W_3 := Lib.hid (own_below W_2.out hd3)
  have G_3 := Lib.hid (own_below G_2.out hd3)
  clear hd3 hb2
  go_wp2_with fail
  refine (markI_any A1 N c1 _ (zs0.map (Value.int .i64)) 1 _ G_3.out (by omega) (by omega) (by omega)).mono ?_
  rintro e w4 ⟨rfl, ho4, hg4⟩
  have hb4 : Below w.heap.size w w4 := hb3.grown hg4 hb3.size (fun k hk => Nat.le_trans (by omega) (G_b.out.lt k hk).1)
  have hs4 : w3.heap.size ≤ w4.heap.size := hg4.size
  have W_4 := Lib.hid (W_3.out.kept hg4 (by cases h0 : (Value.slice A0 N c0).ownBlock with | none => exact Or.inl rfl | some j => exact Or.inr (fun e => by have a := (W_b.out.lt j h0).2; have b := (G_b.out.lt j e.symm).1; omega)))
  have G_4 := Lib.hid ho4
  clear hb3 hg4 ho4
  go_wp2_with fail
  refine (heldI_any A1 N c1 1 _ (IRow.of_own G_4.out (by omega) (rng_mkI N (by omega))) (by omega) (by omega) (by omega)).mono ?_
  rintro e w' ⟨rfl, rfl⟩
  go_wp2_with fail
  refine (HI.out _ (HD.out.below hb4) (HE.out.below hb4) (HM.out.below hb4)).mono ?_
  rintro e w5 ⟨⟨A2, c2, rfl, oH⟩, hd5⟩
  have hb5 : Below w.heap.size w w5 := hb4.trans (hd5.mono hb4.size)
  have hs5 : w4.heap.size ≤ w5.heap.size := hd5.size
  have W_5 := Lib.hid (own_below W_4.out hd5)
  have G_5 := Lib.hid (own_below G_4.out hd5)
  clear hd5 hb4
  have H_5 := Lib.hid oH
  have H_b := Lib.hid oH
  clear oH
  go_wp2_with fail
  refine (eqInt64S_same A2 N c2 A0 c0 zs0 _ (IRow.of_own H_5.out (by omega) HR.out) (IRow.of_own W_5.out (by omega) HR.out)).mono ?_
  rintro e w6 ⟨rfl, hd6⟩
  have hb6 : Below w.heap.size w w6 := hb5.trans (hd6.mono hb5.size)
  have hs6 : w5.heap.size ≤ w6.heap.size := hd6.size
  have W_6 := Lib.hid (own_below W_5.out hd6)
  have G_6 := Lib.hid (own_below G_5.out hd6)
  have H_6 := Lib.hid (own_below H_5.out hd6)
  clear hd6 hb5
  go_wp2_with fail
  refine (heldI_any A1 N c1 1 _ (IRow.of_own G_6.out (by omega) (rng_mkI N (by omega))) (by omega) (by omega) (by omega)).mono ?_
  rintro e w' ⟨rfl, rfl⟩
  go_wp2_with fail
  go_ret
  exact ⟨rfl, hb6⟩
end Go.Proofs.YtnikogholldcmaaDoor
