/-
  Contracts of the continuants in the program and in the reference; the walk of the law FnExactContinuantOf.
  No condition but those of the law's own text.
-/
import Derived.Test.YtdlmjaohacemfaaProg
import Derived.Test.YtdlmjaohacemfaaMem
import Derived.Test.YtdlmjaohacemfaaBasic
import Derived.Test.YtdlmjaohacemfaaAllk
import Derived.Test.YtdlmjaohacemfaaInts
import Derived.Test.YtdlmjaohacemfaaTerms
import Derived.Handy
namespace Go.Proofs.Ytdlmjaohacemfaa
open Go.RowKit
set_option linter.unusedVariables false

/-- The continuant, from two that came before; none if it passes 10^18. -/
def cont (k k0 : Int) : List Int → Option Int
  | [] => some k
  | t :: r => if 1000000000000000000 < t * k + k0 then none else cont (t * k + k0) k r
/-- The continuant and its code. -/
def cntR (zs : List Int) : Int × Int :=
  if 60 < zs.length then (0, 2) else if allK posE 0 zs = false then (0, 2) else match cont 1 0 zs with
    | none => (0, 5)
    | some k => (k, 0)
theorem cntR_long {zs : List Int} (h : 60 < zs.length) : cntR zs = (0, 2) := if_pos h
theorem cntR_bad {zs : List Int} (h : allK posE 0 zs = false) : cntR zs = (0, 2) := by unfold cntR; split; rfl; rfl
theorem cntR_none {zs : List Int} (h : ¬ 60 < zs.length) (h' : allK posE 0 zs = true) (hc : cont 1 0 zs = none) : cntR zs = (0, 5) := by unfold cntR; rw [if_neg h, if_neg (by rw [h']; decide), hc]
theorem cntR_some {zs : List Int} {k : Int} (h : ¬ 60 < zs.length) (h' : allK posE 0 zs = true) (hc : cont 1 0 zs = some k) : cntR zs = (k, 0) := by unfold cntR; rw [if_neg h, if_neg (by rw [h']; decide), hc]
theorem drop_atC {α : Type} {zs : List α} {j : Nat} {z : α} (h : zs[j]? = some z) : zs.drop j = z :: zs.drop (j + 1) := by
  have hl : j < zs.length := by
    rcases Nat.lt_or_ge j zs.length with h' | h'
    · exact h'
    · rw [List.getElem?_eq_none h'] at h; cases h
  rw [List.getElem?_eq_getElem hl] at h
  injection h with h
  rw [List.drop_eq_getElem_cons hl, h]
theorem cont_over {z x y : Int} (r : List Int) (h : 1000000000000000000 < z * x + y) : cont x y (z :: r) = none := by unfold cont; rw [if_pos h]
theorem cont_goes {z x y : Int} (r : List Int) (h : ¬ 1000000000000000000 < z * x + y) : cont x y (z :: r) = cont (z * x + y) x r := by rw [cont, if_neg h]
/-- The test by a quotient is the test by the sum. -/
theorem quo_test {z x y : Int} (hx : 1 ≤ x) : (1000000000000000000 - y) / x < z ↔ 1000000000000000000 < z * x + y := by
  rw [Int.ediv_lt_iff_lt_mul (by omega)]; omega

set_option maxHeartbeats 1600000 in
theorem implCont_any (A : Option Addr) (n cap : Nat) (zs : List Int) (w : World) (h : IRow w A n zs) :
    Calls Try.prog 13 #[.slice A n cap] w fun e w' => e = .returned (.tuple #[.int .i64 (cntR zs).1, .int .i64 (cntR zs).2]) ∧ w = w' := by
  have hbd := h.bd
  have hlen := h.len
  by_cases hn : 60 < n
  · rw [cntR_long (by omega)]
    clear hlen
    go_enter Try.func13, Try.ntmps13
    go_wp2
    go_ret2
    exact ⟨rfl, rfl⟩
  · cases hV : allK posE 0 zs
    · rw [cntR_bad hV]
      have HV := Lib.hid hV
      have hc : (!allK posE 0 zs) = true := by rw [hV]; rfl
      clear hlen hV
      go_enter Try.func13, Try.ntmps13
      go_wp2_with (go_at_call 42; refine (co_contains _ _ _ zs _ h).mono ?_; rintro e w1 ⟨rfl, rfl⟩)
      go_ret2
      exact ⟨rfl, rfl⟩
    · have Hl := Lib.hid hlen
      have HV := Lib.hid hV
      have hc : (!allK posE 0 zs) = false := by rw [hV]; rfl
      have hw := Lib.hid h
      have hn' : ¬ 60 < zs.length := by omega
      have Hn := Lib.hid hn'
      obtain ⟨X, hX⟩ : ∃ X, X = cntR zs := ⟨_, rfl⟩
      rw [← hX]
      have HX := Lib.hid hX
      clear hlen hV hX hn'
      go_enter Try.func13, Try.ntmps13
      go_wp2_with (go_at_call 42; refine (co_contains _ _ _ zs _ h).mono ?_; rintro e w1 ⟨rfl, rfl⟩)
      clear h hc
      go_loop [4, 5, 17] (fun a b i => ∃ (j : Nat) (x y : Int), j ≤ n ∧ i = .int .i64 j ∧ a = .int .i64 x ∧ b = .int .i64 y ∧ 1 ≤ x ∧ x ≤ 1000000000000000000 ∧ 0 ≤ y ∧ y ≤ 1000000000000000000 ∧ Hid (cont 1 0 zs = cont x y (zs.drop j))) (fun _ _ i => n - (intOf i).toNat)
      case atStart => exact ⟨0, 1, 0, Nat.zero_le _, rfl, rfl, rfl, by omega, by omega, by omega, by omega, by show cont 1 0 zs = _; rfl⟩
      case round =>
        obtain ⟨j, x, y, hj, rfl, rfl, rfl, x1, x2, y1, y2, HC⟩ := hrel
        by_cases hlt : j < n
        · obtain ⟨ad, z, rfl, hz, z1, z2, hc⟩ := hw.out.at_ hlt
          have hp : inB z 1 1000000000 = true := by have := allK_at posE zs 0 j z HV.out hz; rwa [Nat.zero_add] at this
          obtain ⟨p1, p2⟩ := inB_iff.1 hp
          have hd := drop_atC hz
          have HD := Lib.hid hd
          clear hp hz hd z1 z2
          by_cases ho : 1000000000000000000 < z * x + y
          · have hq := (quo_test x1).2 ho
            clear ho
            go_wp2
            go_ret2
            have he : cntR zs = (0, 5) := cntR_none Hn.out HV.out (by rw [HC.out, HD.out]; exact cont_over _ ((quo_test x1).1 hq))
            exact ⟨ret_int2 (by rw [HX.out, he]) (by rw [HX.out, he]), rfl⟩
          · have hq : ¬ (1000000000000000000 - y) / x < z := fun h => ho ((quo_test x1).1 h)
            have m0 : 0 ≤ z * x := Int.mul_nonneg (by omega) (by omega)
            have m1 : 1 ≤ z * x := by have := Int.mul_le_mul p1 x1 (by omega) (by omega); omega
            have HN : Hid (cont 1 0 zs = cont (z * x + y) x (zs.drop (j + 1))) := by show cont 1 0 zs = _; rw [HC.out, HD.out, cont_goes _ ho]
            go_wp2
            go_round
            case rel => exact ⟨j + 1, z * x + y, x, by omega, by go_num, rfl, rfl, by omega, by omega, by omega, by omega, HN⟩
            case measure => simp [intOf]; omega
        · obtain rfl : n = j := by omega
          go_wp2
          go_ret2
          have he : cntR zs = (x, 0) := cntR_some Hn.out HV.out (by rw [HC.out, List.drop_of_length_le (by have := Hl.out; omega)]; rfl)
          exact ⟨ret_int2 (by rw [HX.out, he]) (by rw [HX.out, he]), rfl⟩

end Go.Proofs.Ytdlmjaohacemfaa
