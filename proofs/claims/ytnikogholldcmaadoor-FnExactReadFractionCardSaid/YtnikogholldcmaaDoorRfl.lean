/-
  The walk of the law FnExactReadFraction.
  The table of the powers of ten and the two errors of strconv hold what their initialisers lay; MaxLen holds a number.
-/
import Derived.Test.YtnikogholldcmaaDoorRfs
import Derived.Test.YtnikogholldcmaaDoorLaw2
import Derived.Test.YtnikogholldcmaaDoorFrac2
import Derived.Handy
import Derived.BigQuiet
import Derived.Deep.QuietTactic
namespace Go.Proofs.YtnikogholldcmaaDoor
open Go.RowKit
set_option linter.unusedVariables false
set_option linter.unusedSimpArgs false
attribute [local go_sem ↓] Go.wp_at_zero Go.wp_at_succ

set_option maxRecDepth 100000 in
theorem fnExactReadFraction_walk (s : ByteArray) (hsz : s.size ≤ 9223372036854775807) (w : World) (hd : Dr w) (he : Er w) (hm : Mx w) :
    Calls Tryd.prog 10 #[.string s] w fun e w' => e = .returned (.bool true) ∧ Below w.heap.size w w' := by
  by_cases hs : s.size ≤ 1048576
  · have HC := Lib.hid (specRfr_any s w hs)
    have HI := Lib.hid (fun W d e m => implRfr_any s W hs d e m)
    generalize rfT s = R at *
    obtain ⟨x, y, b⟩ := R
    have HD := Lib.hid hd
    have HE := Lib.hid he
    have HM := Lib.hid hm
    have HF := Lib.hid (fun W => eqFraction_same x y W)
    clear hd he hm
    go_enter Tryd.func10, Tryd.ntmps10
    go_wp2_with fail
    refine HC.out.mono ?_
    rintro e w1 ⟨rfl, hb⟩
    have HB := Lib.hid hb
    clear hb
    go_wp2_with fail
    refine (HI.out _ (HD.out.below (HB.out.alloc HB.out.size _)) (HE.out.below (HB.out.alloc HB.out.size _)) (HM.out.below (HB.out.alloc HB.out.size _))).mono ?_
    rintro e w2 ⟨rfl, hb⟩
    obtain ⟨hc2, hf2, hs2⟩ := keepc hb
    have hl2 : w1.heap.size < w2.heap.size := by have := hb.size; simp at this; omega
    have hB2 := (HB.out.alloc HB.out.size (.cells #[.int .i64 x, .int .i64 y] 33)).trans (hb.mono (HB.out.alloc HB.out.size (.cells #[.int .i64 x, .int .i64 y] 33)).size)
    have HB2 := Lib.hid hB2
    clear hb hB2
    go_wp2_with fail
    refine (HF.out _).mono ?_
    rintro e w3 ⟨rfl, hb3⟩
    have HB3 := Lib.hid ((HB2.out.alloc HB2.out.size (.cells #[.int .i64 x, .int .i64 y] 33)).trans (hb3.mono (HB2.out.alloc HB2.out.size (.cells #[.int .i64 x, .int .i64 y] 33)).size))
    clear hb3
    go_wp2_with fail
    go_ret
    exact ⟨by simp, HB3.out⟩
  · have hs' : 1048576 < s.size := by omega
    clear hs hd he hm
    go_enter Tryd.func10, Tryd.ntmps10
    go_wp2_with fail
    go_ret
    exact ⟨rfl, Below.refl _ _⟩
end Go.Proofs.YtnikogholldcmaaDoor
