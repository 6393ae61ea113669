/-
  Contracts of the continuants in the program and in the reference; the walk of the law FnExactContinuantOf.
  No condition but those of the law's own text.
-/
import Derived.Test.YtbchokafjnehoaaProg
import Derived.Test.YtbchokafjnehoaaMem
import Derived.Test.YtbchokafjnehoaaBasic
import Derived.Test.YtbchokafjnehoaaAllk
import Derived.Test.YtbchokafjnehoaaInts
import Derived.Test.YtbchokafjnehoaaTerms
import Derived.Handy
namespace Go.Proofs.Ytbchokafjnehoaa
open Go.RowKit
set_option linter.unusedVariables false

/-- The continuant, from two that came before; none if it passes 10^18. -/
def cont (k k0 : Int) : List Int → Option Int
  | [] => some k
  | t :: r => if 1000000000000000000 < t * k + k0 then none else cont (t * k + k0) k r
/-- The continuant and its code. -/
def cntR (zs : List Int) : Int × Int :=
  if 60 < zs.length then (0, 2) else if allK posE 0 zs = false then (0, 2) else match cont 1 0 zs with
    | none => (0, 5)
    | some k => (k, 0)
theorem cntR_long {zs : List Int} (h : 60 < zs.length) : cntR zs = (0, 2) := if_pos h
theorem cntR_bad {zs : List Int} (h : allK posE 0 zs = false) : cntR zs = (0, 2) := by unfold cntR; split; rfl; rfl
theorem cntR_none {zs : List Int} (h : ¬ 60 < zs.length) (h' : allK posE 0 zs = true) (hc : cont 1 0 zs = none) : cntR zs = (0, 5) := by unfold cntR; rw [if_neg h, if_neg (by rw [h']; decide), hc]
theorem cntR_some {zs : List Int} {k : Int} (h : ¬ 60 < zs.length) (h' : allK posE 0 zs = true) (hc : cont 1 0 zs = some k) : cntR zs = (k, 0) := by unfold cntR; rw [if_neg h, if_neg (by rw [h']; decide), hc]
theorem drop_at {α : Type} {zs : List α} {j : Nat} {z : α} (h : zs[j]? = some z) : zs.drop j = z :: zs.drop (j + 1) := by
  have hl : j < zs.length := by
    rcases Nat.lt_or_ge j zs.length with h' | h'
    · exact h'
    · rw [List.getElem?_eq_none h'] at h; cases h
  rw [List.getElem?_eq_getElem hl] at h
  injection h with h
  rw [List.drop_eq_getElem_cons hl, h]
theorem cont_over {z x y : Int} (r : List Int) (h : 1000000000000000000 < z * x + y) : cont x y (z :: r) = none := by unfold cont; rw [if_pos h]
theorem cont_goes {z x y : Int} (r : List Int) (h : ¬ 1000000000000000000 < z * x + y) : cont x y (z :: r) = cont (z * x + y) x r := by rw [cont, if_neg h]
/-- The test by a quotient is the test by the sum. -/
theorem quo_test {z x y : Int} (hx : 1 ≤ x) : (1000000000000000000 - y) / x < z ↔ 1000000000000000000 < z * x + y := by
  rw [Int.ediv_lt_iff_lt_mul (by omega)]; omega

set_option maxHeartbeats 1600000 in
theorem implCont_any (A : Option Addr) (n cap : Nat) (zs : List Int) (w : World) (h : IRow w A n zs) :
    Calls Try.prog 39 #[.slice A n cap] w fun e w' => e = .returned (.tuple #[.int .i64 (cntR zs).1, .int .i64 (cntR zs).2]) ∧ w = w' := by
  have hbd := h.bd
  have hlen := h.len
  by_cases hn : 60 < n
  · rw [cntR_long (by omega)]
    clear hlen
    go_enter Try.func39, Try.ntmps39
    go_wp2
    go_ret2
    exact ⟨rfl, rfl⟩
  · cases hV : allK posE 0 zs
    · rw [cntR_bad hV]
      have HV := Lib.hid hV
      have hc : (!allK posE 0 zs) = true := by rw [hV]; rfl
      clear hlen hV
      go_enter Try.func39, Try.ntmps39
      go_wp2_with (go_at_call 54; refine (co_contains _ _ _ zs _ h).mono ?_; rintro e w1 ⟨rfl, rfl⟩)
      go_ret2
      exact ⟨rfl, rfl⟩
    · have Hl := Lib.hid hlen
      have HV := Lib.hid hV
      have hc : (!allK posE 0 zs) = false := by rw [hV]; rfl
      have hw := Lib.hid h
      have hn' : ¬ 60 < zs.length := by omega
      have Hn := Lib.hid hn'
      obtain ⟨X, hX⟩ : ∃ X, X = cntR zs := ⟨_, rfl⟩
      rw [← hX]
      have HX := Lib.hid hX
      clear hlen hV hX hn'
      go_enter Try.func39, Try.ntmps39
      go_wp2_with (go_at_call 54; refine (co_contains _ _ _ zs _ h).mono ?_; rintro e w1 ⟨rfl, rfl⟩)
      clear h hc
      go_loop [4, 5, 17] (fun a b i => ∃ (j : Nat) (x y : Int), j ≤ n ∧ i = .int .i64 j ∧ a = .int .i64 x ∧ b = .int .i64 y ∧ 1 ≤ x ∧ x ≤ 1000000000000000000 ∧ 0 ≤ y ∧ y ≤ 1000000000000000000 ∧ Hid (cont 1 0 zs = cont x y (zs.drop j))) (fun _ _ i => n - (intOf i).toNat)
      case atStart => exact ⟨0, 1, 0, Nat.zero_le _, rfl, rfl, rfl, by omega, by omega, by omega, by omega, by show cont 1 0 zs = _; rfl⟩
      case round =>
        obtain ⟨j, x, y, hj, rfl, rfl, rfl, x1, x2, y1, y2, HC⟩ := hrel
        by_cases hlt : j < n
        · obtain ⟨ad, z, rfl, hz, z1, z2, hc⟩ := hw.out.at_ hlt
          have hp : inB z 1 1000000000 = true := by have := allK_at posE zs 0 j z HV.out hz; rwa [Nat.zero_add] at this
          obtain ⟨p1, p2⟩ := inB_iff.1 hp
          have hd := drop_at hz
          have HD := Lib.hid hd
          clear hp hz hd z1 z2
          by_cases ho : 1000000000000000000 < z * x + y
          · have hq := (quo_test x1).2 ho
            clear ho
            go_wp2
            go_ret2
            have he : cntR zs = (0, 5) := cntR_none Hn.out HV.out (by rw [HC.out, HD.out]; exact cont_over _ ((quo_test x1).1 hq))
            exact ⟨ret_int2 (by rw [HX.out, he]) (by rw [HX.out, he]), rfl⟩
          · have hq : ¬ (1000000000000000000 - y) / x < z := fun h => ho ((quo_test x1).1 h)
            have m0 : 0 ≤ z * x := Int.mul_nonneg (by omega) (by omega)
            have m1 : 1 ≤ z * x := by have := Int.mul_le_mul p1 x1 (by omega) (by omega); omega
            have HN : Hid (cont 1 0 zs = cont (z * x + y) x (zs.drop (j + 1))) := by show cont 1 0 zs = _; rw [HC.out, HD.out, cont_goes _ ho]
            go_wp2
            go_round
            case rel => exact ⟨j + 1, z * x + y, x, by omega, by go_num, rfl, rfl, by omega, by omega, by omega, by omega, HN⟩
            case measure => simp [intOf]; omega
        · obtain rfl : n = j := by omega
          go_wp2
          go_ret2
          have he : cntR zs = (x, 0) := cntR_some Hn.out HV.out (by rw [HC.out, List.drop_of_length_le (by have := Hl.out; omega)]; rfl)
          exact ⟨ret_int2 (by rw [HX.out, he]) (by rw [HX.out, he]), rfl⟩

set_option maxHeartbeats 1600000 in
theorem specCont_any (A : Option Addr) (n cap : Nat) (zs : List Int) (w : World) (h : IRow w A n zs) :
    Calls Try.prog 38 #[.slice A n cap] w fun e w' => e = .returned (.tuple #[.int .i64 (cntR zs).1, .int .i64 (cntR zs).2]) ∧ w = w' := by
  have hbd := h.bd
  have Hl := Lib.hid h.len
  have hw := Lib.hid h; clear h
  obtain ⟨X, hX⟩ : ∃ X, X = cntR zs := ⟨_, rfl⟩
  rw [← hX]
  have HX := Lib.hid hX
  clear hX
  go_enter Try.func38, Try.ntmps38
  go_wp2
  go_loop [4] (fun i => ∃ k : Nat, k ≤ n ∧ i = .int .i64 k ∧ Hid (Upto posE zs k)) (fun i => n - (intOf i).toNat)
  case atStart => exact ⟨0, Nat.zero_le _, rfl, Upto.zero _ _⟩
  case round =>
    obtain ⟨k, hk, rfl, HU⟩ := hrel
    by_cases hlt : k < n
    · obtain ⟨ad, z, rfl, hz, z1, z2, hc⟩ := hw.out.at_ hlt
      have HZ := Lib.hid hz; clear hz
      cases hb : inB z 1 1000000000
      · go_wp2_with (go_at_call 40; refine (l00In_any _ _ _ _).mono ?_; rintro e w1 ⟨rfl, rfl⟩)
        go_ret2
        have he : cntR zs = (0, 2) := cntR_bad (allK_f posE zs 0 k z HZ.out (by rw [Nat.zero_add]; exact hb))
        exact ⟨ret_int2 (by rw [HX.out, he]) (by rw [HX.out, he]), rfl⟩
      · go_wp2_with (go_at_call 40; refine (l00In_any _ _ _ _).mono ?_; rintro e w1 ⟨rfl, rfl⟩)
        go_round
        case rel => exact ⟨k + 1, by omega, by go_num, HU.out.step HZ.out hb⟩
        case measure => simp [intOf]; omega
    · obtain rfl : n = k := by omega
      have hV : allK posE 0 zs = true := HU.out.all (by have := Hl.out; omega)
      have HV := Lib.hid hV
      clear HU hV
      by_cases hn : 60 < n
      · go_wp2
        go_ret2
        have he : cntR zs = (0, 2) := cntR_long (by have := Hl.out; omega)
        exact ⟨ret_int2 (by rw [HX.out, he]) (by rw [HX.out, he]), rfl⟩
      · have Hn : Hid (¬ 60 < zs.length) := by show ¬ 60 < zs.length; have := Hl.out; omega
        go_wp2
        go_loop [5, 6, 7] (fun a b i => ∃ (j : Nat) (x y : Int), j ≤ n ∧ i = .int .i64 j ∧ a = .int .i64 x ∧ b = .int .i64 y ∧ 1 ≤ x ∧ x ≤ 1000000000000000000 ∧ 0 ≤ y ∧ y ≤ 1000000000000000000 ∧ Hid (cont 1 0 zs = cont x y (zs.drop j))) (fun _ _ i => n - (intOf i).toNat)
        case atStart => exact ⟨0, 1, 0, Nat.zero_le _, rfl, rfl, rfl, by omega, by omega, by omega, by omega, by show cont 1 0 zs = _; rfl⟩
        case round =>
          obtain ⟨j, x, y, hj, rfl, rfl, rfl, x1, x2, y1, y2, HC⟩ := hrel
          by_cases hlt' : j < n
          · obtain ⟨ad, z, rfl, hz, z1, z2, hc⟩ := hw.out.at_ hlt'
            have hp : inB z 1 1000000000 = true := by have := allK_at posE zs 0 j z HV.out hz; rwa [Nat.zero_add] at this
            obtain ⟨p1, p2⟩ := inB_iff.1 hp
            have hd := drop_at hz
            have HD := Lib.hid hd
            clear hp hz hd z1 z2
            by_cases ho : 1000000000000000000 < z * x + y
            · have hq : (1000000000000000000 - y) / z < x := (quo_test p1).2 (by rw [Int.mul_comm]; exact ho)
              clear ho
              go_wp2
              go_ret2
              have he : cntR zs = (0, 5) := cntR_none Hn.out HV.out (by rw [HC.out, HD.out]; exact cont_over _ (by rw [Int.mul_comm]; exact (quo_test p1).1 hq))
              exact ⟨ret_int2 (by rw [HX.out, he]) (by rw [HX.out, he]), rfl⟩
            · have hq : ¬ (1000000000000000000 - y) / z < x := fun h => ho (by rw [Int.mul_comm]; exact (quo_test p1).1 h)
              have m0 : 0 ≤ z * x := Int.mul_nonneg (by omega) (by omega)
              have m1 : 1 ≤ z * x := by have := Int.mul_le_mul p1 x1 (by omega) (by omega); omega
              have HN : Hid (cont 1 0 zs = cont (z * x + y) x (zs.drop (j + 1))) := by show cont 1 0 zs = _; rw [HC.out, HD.out, cont_goes _ ho]
              go_wp2
              go_round
              case rel => exact ⟨j + 1, z * x + y, x, by omega, by go_num, rfl, rfl, by omega, by omega, by omega, by omega, HN⟩
              case measure => simp [intOf]; omega
          · obtain rfl : n = j := by omega
            go_wp2
            go_ret2
            have he : cntR zs = (x, 0) := cntR_some Hn.out HV.out (by rw [HC.out, List.drop_of_length_le (by have := Hl.out; omega)]; rfl)
            exact ⟨ret_int2 (by rw [HX.out, he]) (by rw [HX.out, he]), rfl⟩

theorem fnExactContinuantOf_walk (w : World) (A : Option Addr) (n cap : Nat) (zs : List Int) (h : IRow w A n zs) :
    Calls Try.prog 13 #[.slice A n cap] w fun e w' => e = .returned (.bool true) ∧ Below w.heap.size w w' := by
  by_cases hn : (1048576 : Int) < n
  · go_enter Try.func13, Try.ntmps13
    go_wp2
    go_ret
    exact ⟨rfl, Below.refl _ _⟩
  · have Hr := Lib.hid h.2.2.1
    go_enter Try.func13, Try.ntmps13
    go_wp2_with fail
    refine (toInt64S_any A n cap zs _ h (by omega)).mono ?_
    rintro e w1 ⟨A1, c1, rfl, ho1, hb1⟩
    obtain ⟨hc1, hf1, hs1⟩ := keepc hb1
    have hB1 : Below w.heap.size w w1 := Below.trans (by go_grown) (hb1.mono (by first | exact Nat.le_refl _ | (simp only [World.size_alloc]; omega)))
    try simp only [World.size_alloc] at hs1
    have r1 := IRow.of_own ho1 (by omega) Hr.out
    go_wp2_with fail
    refine (specCont_any A1 n c1 zs _ r1).mono ?_
    rintro e w' ⟨rfl, rfl⟩
    go_wp2_with fail
    refine (toInt64S_any A n cap zs _ (h.below hB1) (by omega)).mono ?_
    rintro e w2 ⟨A2, c2, rfl, ho2, hb2⟩
    obtain ⟨hc2, hf2, hs2⟩ := keepc hb2
    have hB2 : Below w.heap.size w w2 := hB1.trans (hb2.mono (by have := hB1.size; omega))
    have r2 := IRow.of_own ho2 (by omega) Hr.out
    go_wp2_with fail
    refine (implCont_any A2 n c2 zs _ r2).mono ?_
    rintro e w' ⟨rfl, rfl⟩
    go_wp2_with fail
    refine (toInt64S_any A n cap zs _ (h.below hB2) (by omega)).mono ?_
    rintro e w3 ⟨A3, c3, rfl, ho3, hb3⟩
    obtain ⟨hc3, hf3, hs3⟩ := keepc hb3
    have hB3 : Below w.heap.size w w3 := hB2.trans (hb3.mono (by have := hB2.size; omega))
    have r3 := IRow.of_own ho3 (by omega) Hr.out
    replace r2 := r2.below hb3
    go_wp2_with fail
    refine (eqInt64S_same A2 n c2 A3 c3 zs _ r2 r3).mono ?_
    rintro e w4 ⟨rfl, hb4⟩
    obtain ⟨hc4, hf4, hs4⟩ := keepc hb4
    have hB4 : Below w.heap.size w w4 := hB3.trans (hb4.mono (by have := hB3.size; omega))
    go_wp2_with fail
    go_ret
    exact ⟨rfl, hB4⟩
end Go.Proofs.Ytbchokafjnehoaa
