/-
  The walk of the law FnExactValidPath: it returns true.
  No condition but those of the law's own text.
-/
import Derived.Test.YtbchokafjnehoaaProg
import Derived.Test.YtbchokafjnehoaaMem
import Derived.Test.YtbchokafjnehoaaBasic
import Derived.Test.YtbchokafjnehoaaAllk
import Derived.Test.YtbchokafjnehoaaInts
import Derived.Handy
namespace Go.Proofs.Ytbchokafjnehoaa
open Go.RowKit
set_option linter.unusedVariables false

set_option maxHeartbeats 1600000 in
theorem implValidPath_any (A : Option Addr) (n cap : Nat) (zs : List Int) (w : World) (h : IRow w A n zs) :
    Calls Try.prog 28 #[.slice A n cap] w fun e w' => e = .returned (.bool (pthB zs)) ∧ w = w' := by
  have hbd := h.bd
  have hlen := h.len
  by_cases hn : 60 < n
  · rw [show pthB zs = false from by unfold pthB; rw [decide_eq_false (by omega)]; rfl]
    clear hlen
    go_enter Try.func28, Try.ntmps28
    go_wp2
    go_ret
    exact ⟨rfl, rfl⟩
  · have hp : pthB zs = allK (pthE n) 0 zs := by unfold pthB; rw [decide_eq_true (by omega), hlen]; rfl
    rw [hp]; clear hp
    have Hl := Lib.hid hlen; clear hlen
    have hw := Lib.hid h; clear h
    obtain ⟨V, hV⟩ : ∃ V, V = allK (pthE n) 0 zs := ⟨_, rfl⟩
    rw [← hV]
    have HV := Lib.hid hV; clear hV
    go_enter Try.func28, Try.ntmps28
    go_wp2
    go_loop [11] (fun i => ∃ k : Nat, k ≤ n ∧ i = .int .i64 k ∧ Hid (Upto (pthE n) zs k)) (fun i => n - (intOf i).toNat)
    case atStart => exact ⟨0, Nat.zero_le _, rfl, Upto.zero _ _⟩
    case round =>
      obtain ⟨k, hk, rfl, HU⟩ := hrel
      by_cases hlt : k < n
      · obtain ⟨ad, z, rfl, hz, z1, z2, hc⟩ := hw.out.at_ hlt
        have HZ := Lib.hid hz; clear hz
        rcases (by omega : (k ≤ 0 ∧ 1 < n) ∨ (k ≤ 0 ∧ n ≤ 1) ∨ 1 ≤ k) with ⟨a1, a2⟩ | ⟨a1, a2⟩ | a1
        · have he : pthE n k z = inB z 0 1000000000 := by unfold pthE; rw [(if_pos (by omega))]
          have He := Lib.hid he; clear he
          cases hb : inB z 0 1000000000
          · go_wp2_with (go_at_call 41; refine (within_any _ _ _ _).mono ?_; rintro e w1 ⟨rfl, rfl⟩)
            go_ret
            exact ⟨ret_bool (by rw [HV.out]; exact (allK_f _ zs 0 k z HZ.out (by rw [Nat.zero_add, He.out]; exact hb)).symm), rfl⟩
          · go_wp2_with (go_at_call 41; refine (within_any _ _ _ _).mono ?_; rintro e w1 ⟨rfl, rfl⟩)
            go_round
            case rel => exact ⟨k + 1, by omega, by go_num, HU.out.step HZ.out (by rw [He.out]; exact hb)⟩
            case measure => simp [intOf]; omega
        · have he : pthE n k z = inB z 1 1000000000 := by unfold pthE; rw [(if_neg (by omega))]
          have He := Lib.hid he; clear he
          cases hb : inB z 1 1000000000
          · go_wp2_with (go_at_call 41; refine (within_any _ _ _ _).mono ?_; rintro e w1 ⟨rfl, rfl⟩)
            go_ret
            exact ⟨ret_bool (by rw [HV.out]; exact (allK_f _ zs 0 k z HZ.out (by rw [Nat.zero_add, He.out]; exact hb)).symm), rfl⟩
          · go_wp2_with (go_at_call 41; refine (within_any _ _ _ _).mono ?_; rintro e w1 ⟨rfl, rfl⟩)
            go_round
            case rel => exact ⟨k + 1, by omega, by go_num, HU.out.step HZ.out (by rw [He.out]; exact hb)⟩
            case measure => simp [intOf]; omega
        · have he : pthE n k z = inB z 1 1000000000 := by unfold pthE; rw [(if_neg (by omega))]
          have He := Lib.hid he; clear he
          cases hb : inB z 1 1000000000
          · go_wp2_with (go_at_call 41; refine (within_any _ _ _ _).mono ?_; rintro e w1 ⟨rfl, rfl⟩)
            go_ret
            exact ⟨ret_bool (by rw [HV.out]; exact (allK_f _ zs 0 k z HZ.out (by rw [Nat.zero_add, He.out]; exact hb)).symm), rfl⟩
          · go_wp2_with (go_at_call 41; refine (within_any _ _ _ _).mono ?_; rintro e w1 ⟨rfl, rfl⟩)
            go_round
            case rel => exact ⟨k + 1, by omega, by go_num, HU.out.step HZ.out (by rw [He.out]; exact hb)⟩
            case measure => simp [intOf]; omega
      · obtain rfl : n = k := by omega
        go_wp2
        go_ret
        exact ⟨ret_bool (by rw [HV.out]; exact (HU.out.all (by have := Hl.out; omega)).symm), rfl⟩

set_option maxHeartbeats 1600000 in
theorem l05Ok_any (A : Option Addr) (n cap : Nat) (zs : List Int) (w : World) (h : IRow w A n zs) :
    Calls Try.prog 51 #[.slice A n cap] w fun e w' => e = .returned (.bool (pthB zs)) ∧ w = w' := by
  have hbd := h.bd
  have hlen := h.len
  have Hl := Lib.hid hlen
  have hp : pthB zs = (decide (n ≤ 60) && allK (pthE n) 0 zs) := by unfold pthB; rw [hlen]
  rw [hp]; clear hp
  clear hlen
  have hw := Lib.hid h; clear h
  obtain ⟨V, hV⟩ : ∃ V, V = allK (pthE n) 0 zs := ⟨_, rfl⟩
  rw [← hV]
  have HV := Lib.hid hV; clear hV
  go_enter Try.func51, Try.ntmps51
  go_wp2
  go_loop [3] (fun i => ∃ k : Nat, k ≤ n ∧ i = .int .i64 k ∧ Hid (Upto (pthE n) zs k)) (fun i => n - (intOf i).toNat)
  case atStart => exact ⟨0, Nat.zero_le _, rfl, Upto.zero _ _⟩
  case round =>
    obtain ⟨k, hk, rfl, HU⟩ := hrel
    by_cases hlt : k < n
    · obtain ⟨ad, z, rfl, hz, z1, z2, hc⟩ := hw.out.at_ hlt
      have HZ := Lib.hid hz; clear hz
      rcases (by omega : (k ≤ 0 ∧ 1 < n) ∨ (k ≤ 0 ∧ n ≤ 1) ∨ 1 ≤ k) with ⟨a1, a2⟩ | ⟨a1, a2⟩ | a1
      · have he : pthE n k z = inB z 0 1000000000 := by unfold pthE; rw [(if_pos (by omega))]
        have He := Lib.hid he; clear he
        try have hc0 : w.cell? ad = some (.int .i64 z) := by (have h0 : k = 0 := by omega); rw [h0, addr_nil] at hc; exact hc
        cases hb : inB z 0 1000000000
        · go_wp2_with (go_at_call 40; refine (l00In_any _ _ _ _).mono ?_; rintro e w1 ⟨rfl, rfl⟩)
          go_ret
          exact ⟨ret_bool (by rw [HV.out, allK_f _ zs 0 k z HZ.out (by rw [Nat.zero_add, He.out]; exact hb)]; simp), rfl⟩
        · go_wp2_with (go_at_call 40; refine (l00In_any _ _ _ _).mono ?_; rintro e w1 ⟨rfl, rfl⟩)
          go_round
          case rel => exact ⟨k + 1, by omega, by go_num, HU.out.step HZ.out (by rw [He.out]; exact hb)⟩
          case measure => simp [intOf]; omega
      · have he : pthE n k z = inB z 1 1000000000 := by unfold pthE; rw [(if_neg (by omega))]
        have He := Lib.hid he; clear he
        try have hc0 : w.cell? ad = some (.int .i64 z) := by (have h0 : k = 0 := by omega); rw [h0, addr_nil] at hc; exact hc
        cases hb : inB z 1 1000000000
        · go_wp2_with (go_at_call 40; refine (l00In_any _ _ _ _).mono ?_; rintro e w1 ⟨rfl, rfl⟩)
          go_ret
          exact ⟨ret_bool (by rw [HV.out, allK_f _ zs 0 k z HZ.out (by rw [Nat.zero_add, He.out]; exact hb)]; simp), rfl⟩
        · go_wp2_with (go_at_call 40; refine (l00In_any _ _ _ _).mono ?_; rintro e w1 ⟨rfl, rfl⟩)
          go_round
          case rel => exact ⟨k + 1, by omega, by go_num, HU.out.step HZ.out (by rw [He.out]; exact hb)⟩
          case measure => simp [intOf]; omega
      · have he : pthE n k z = inB z 1 1000000000 := by unfold pthE; rw [(if_neg (by omega))]
        have He := Lib.hid he; clear he
        try have hc0 : w.cell? ad = some (.int .i64 z) := by (have h0 : k = 0 := by omega); rw [h0, addr_nil] at hc; exact hc
        cases hb : inB z 1 1000000000
        · go_wp2_with (go_at_call 40; refine (l00In_any _ _ _ _).mono ?_; rintro e w1 ⟨rfl, rfl⟩)
          go_ret
          exact ⟨ret_bool (by rw [HV.out, allK_f _ zs 0 k z HZ.out (by rw [Nat.zero_add, He.out]; exact hb)]; simp), rfl⟩
        · go_wp2_with (go_at_call 40; refine (l00In_any _ _ _ _).mono ?_; rintro e w1 ⟨rfl, rfl⟩)
          go_round
          case rel => exact ⟨k + 1, by omega, by go_num, HU.out.step HZ.out (by rw [He.out]; exact hb)⟩
          case measure => simp [intOf]; omega
    · obtain rfl : n = k := by omega
      go_wp2
      go_ret
      refine ⟨ret_bool ?_, rfl⟩
      rw [HV.out, HU.out.all (by have := Hl.out; omega), Bool.and_true]
      rw [decide_eq_decide]; omega

theorem specValidPath_any (A : Option Addr) (n cap : Nat) (zs : List Int) (w : World) (h : IRow w A n zs) :
    Calls Try.prog 27 #[.slice A n cap] w fun e w' => e = .returned (.bool (pthB zs)) ∧ w = w' := by
  go_enter Try.func27, Try.ntmps27
  go_wp2_with fail
  refine (l05Ok_any A n cap zs _ h).mono ?_
  rintro e w1 ⟨rfl, rfl⟩
  go_wp2_with fail
  go_ret
  exact ⟨rfl, rfl⟩
theorem fnExactValidPath_walk (w : World) (A : Option Addr) (n cap : Nat) (zs : List Int) (h : IRow w A n zs) :
    Calls Try.prog 9 #[.slice A n cap] w fun e w' => e = .returned (.bool true) ∧ Below w.heap.size w w' := by
  by_cases hn : (1048576 : Int) < n
  · go_enter Try.func9, Try.ntmps9
    go_wp2
    go_ret
    exact ⟨rfl, Below.refl _ _⟩
  · have Hr := Lib.hid h.2.2.1
    go_enter Try.func9, Try.ntmps9
    go_wp2_with fail
    refine (toInt64S_any A n cap zs _ h (by omega)).mono ?_
    rintro e w1 ⟨A1, c1, rfl, ho1, hb1⟩
    obtain ⟨hc1, hf1, hs1⟩ := keepc hb1
    have hB1 : Below w.heap.size w w1 := Below.trans (by go_grown) (hb1.mono (by first | exact Nat.le_refl _ | (simp only [World.size_alloc]; omega)))
    try simp only [World.size_alloc] at hs1
    have r1 := IRow.of_own ho1 (by omega) Hr.out
    go_wp2_with fail
    refine (specValidPath_any A1 n c1 zs _ r1).mono ?_
    rintro e w' ⟨rfl, rfl⟩
    go_wp2_with fail
    refine (toInt64S_any A n cap zs _ (h.below hB1) (by omega)).mono ?_
    rintro e w2 ⟨A2, c2, rfl, ho2, hb2⟩
    obtain ⟨hc2, hf2, hs2⟩ := keepc hb2
    have hB2 : Below w.heap.size w w2 := hB1.trans (hb2.mono (by have := hB1.size; omega))
    have r2 := IRow.of_own ho2 (by omega) Hr.out
    go_wp2_with fail
    refine (implValidPath_any A2 n c2 zs _ r2).mono ?_
    rintro e w' ⟨rfl, rfl⟩
    go_wp2_with fail
    refine (toInt64S_any A n cap zs _ (h.below hB2) (by omega)).mono ?_
    rintro e w3 ⟨A3, c3, rfl, ho3, hb3⟩
    obtain ⟨hc3, hf3, hs3⟩ := keepc hb3
    have hB3 : Below w.heap.size w w3 := hB2.trans (hb3.mono (by have := hB2.size; omega))
    have r3 := IRow.of_own ho3 (by omega) Hr.out
    replace r2 := r2.below hb3
    go_wp2_with fail
    refine (eqInt64S_same A2 n c2 A3 c3 zs _ r2 r3).mono ?_
    rintro e w4 ⟨rfl, hb4⟩
    obtain ⟨hc4, hf4, hs4⟩ := keepc hb4
    have hB4 : Below w.heap.size w w4 := hB3.trans (hb4.mono (by have := hB3.size; omega))
    go_wp2_with fail
    go_ret
    exact ⟨rfl, hB4⟩
end Go.Proofs.Ytbchokafjnehoaa
