/-
  The walk of the law FnExactValidPath: it returns true.
  No condition but those of the law's own text.
-/
import Derived.Test.YtbpaihbpaeoljaaProg
import Derived.Test.YtbpaihbpaeoljaaMem
import Derived.Test.YtbpaihbpaeoljaaBasic
import Derived.Test.YtbpaihbpaeoljaaAllk
import Derived.Test.YtbpaihbpaeoljaaInts
import Derived.Handy
namespace Go.Proofs.Ytbpaihbpaeoljaa
open Go.RowKit
set_option linter.unusedVariables false

set_option maxHeartbeats 1600000 in
theorem implValidPath_any (A : Option Addr) (n cap : Nat) (zs : List Int) (w : World) (h : IRow w A n zs) :
    Calls Try.prog 80 #[.slice A n cap] w fun e w' => e = .returned (.bool (pthB zs)) ∧ w = w' := by
  have hbd := h.bd
  have hlen := h.len
  by_cases hn : 60 < n
  · rw [show pthB zs = false from by unfold pthB; rw [decide_eq_false (by omega)]; rfl]
    clear hlen
    go_enter Try.func80, Try.ntmps80
    go_wp2
    go_ret
    exact ⟨rfl, rfl⟩
  · have hp : pthB zs = allK (pthE n) 0 zs := by unfold pthB; rw [decide_eq_true (by omega), hlen]; rfl
    rw [hp]; clear hp
    have Hl := Lib.hid hlen; clear hlen
    have hw := Lib.hid h; clear h
    obtain ⟨V, hV⟩ : ∃ V, V = allK (pthE n) 0 zs := ⟨_, rfl⟩
    rw [← hV]
    have HV := Lib.hid hV; clear hV
    go_enter Try.func80, Try.ntmps80
    go_wp2
    go_loop [11] (fun i => ∃ k : Nat, k ≤ n ∧ i = .int .i64 k ∧ Hid (Upto (pthE n) zs k)) (fun i => n - (intOf i).toNat)
    case atStart => exact ⟨0, Nat.zero_le _, rfl, Upto.zero _ _⟩
    case round =>
      obtain ⟨k, hk, rfl, HU⟩ := hrel
      by_cases hlt : k < n
      · obtain ⟨ad, z, rfl, hz, z1, z2, hc⟩ := hw.out.at_ hlt
        have HZ := Lib.hid hz; clear hz
        rcases (by omega : (k ≤ 0 ∧ 1 < n) ∨ (k ≤ 0 ∧ n ≤ 1) ∨ 1 ≤ k) with ⟨a1, a2⟩ | ⟨a1, a2⟩ | a1
        · have he : pthE n k z = inB z 0 1000000000 := by unfold pthE; rw [(if_pos (by omega))]
          have He := Lib.hid he; clear he
          cases hb : inB z 0 1000000000
          · go_wp2_with (go_at_call 64; refine (within_any _ _ _ _).mono ?_; rintro e w1 ⟨rfl, rfl⟩)
            go_ret
            exact ⟨ret_bool (by rw [HV.out]; exact (allK_f _ zs 0 k z HZ.out (by rw [Nat.zero_add, He.out]; exact hb)).symm), rfl⟩
          · go_wp2_with (go_at_call 64; refine (within_any _ _ _ _).mono ?_; rintro e w1 ⟨rfl, rfl⟩)
            go_round
            case rel => exact ⟨k + 1, by omega, by go_num, HU.out.step HZ.out (by rw [He.out]; exact hb)⟩
            case measure => simp [intOf]; omega
        · have he : pthE n k z = inB z 1 1000000000 := by unfold pthE; rw [(if_neg (by omega))]
          have He := Lib.hid he; clear he
          cases hb : inB z 1 1000000000
          · go_wp2_with (go_at_call 64; refine (within_any _ _ _ _).mono ?_; rintro e w1 ⟨rfl, rfl⟩)
            go_ret
            exact ⟨ret_bool (by rw [HV.out]; exact (allK_f _ zs 0 k z HZ.out (by rw [Nat.zero_add, He.out]; exact hb)).symm), rfl⟩
          · go_wp2_with (go_at_call 64; refine (within_any _ _ _ _).mono ?_; rintro e w1 ⟨rfl, rfl⟩)
            go_round
            case rel => exact ⟨k + 1, by omega, by go_num, HU.out.step HZ.out (by rw [He.out]; exact hb)⟩
            case measure => simp [intOf]; omega
        · have he : pthE n k z = inB z 1 1000000000 := by unfold pthE; rw [(if_neg (by omega))]
          have He := Lib.hid he; clear he
          cases hb : inB z 1 1000000000
          · go_wp2_with (go_at_call 64; refine (within_any _ _ _ _).mono ?_; rintro e w1 ⟨rfl, rfl⟩)
            go_ret
            exact ⟨ret_bool (by rw [HV.out]; exact (allK_f _ zs 0 k z HZ.out (by rw [Nat.zero_add, He.out]; exact hb)).symm), rfl⟩
          · go_wp2_with (go_at_call 64; refine (within_any _ _ _ _).mono ?_; rintro e w1 ⟨rfl, rfl⟩)
            go_round
            case rel => exact ⟨k + 1, by omega, by go_num, HU.out.step HZ.out (by rw [He.out]; exact hb)⟩
            case measure => simp [intOf]; omega
      · obtain rfl : n = k := by omega
        go_wp2
        go_ret
        exact ⟨ret_bool (by rw [HV.out]; exact (HU.out.all (by have := Hl.out; omega)).symm), rfl⟩

set_option maxHeartbeats 1600000 in
theorem l05Ok_any (A : Option Addr) (n cap : Nat) (zs : List Int) (w : World) (h : IRow w A n zs) :
    Calls Try.prog 78 #[.slice A n cap] w fun e w' => e = .returned (.bool (pthB zs)) ∧ w = w' := by
  have hbd := h.bd
  have hlen := h.len
  have Hl := Lib.hid hlen
  have hp : pthB zs = (decide (n ≤ 60) && allK (pthE n) 0 zs) := by unfold pthB; rw [hlen]
  rw [hp]; clear hp
  clear hlen
  have hw := Lib.hid h; clear h
  obtain ⟨V, hV⟩ : ∃ V, V = allK (pthE n) 0 zs := ⟨_, rfl⟩
  rw [← hV]
  have HV := Lib.hid hV; clear hV
  go_enter Try.func78, Try.ntmps78
  go_wp2
  go_loop [3] (fun i => ∃ k : Nat, k ≤ n ∧ i = .int .i64 k ∧ Hid (Upto (pthE n) zs k)) (fun i => n - (intOf i).toNat)
  case atStart => exact ⟨0, Nat.zero_le _, rfl, Upto.zero _ _⟩
  case round =>
    obtain ⟨k, hk, rfl, HU⟩ := hrel
    by_cases hlt : k < n
    · obtain ⟨ad, z, rfl, hz, z1, z2, hc⟩ := hw.out.at_ hlt
      have HZ := Lib.hid hz; clear hz
      rcases (by omega : (k ≤ 0 ∧ 1 < n) ∨ (k ≤ 0 ∧ n ≤ 1) ∨ 1 ≤ k) with ⟨a1, a2⟩ | ⟨a1, a2⟩ | a1
      · have he : pthE n k z = inB z 0 1000000000 := by unfold pthE; rw [(if_pos (by omega))]
        have He := Lib.hid he; clear he
        try have hc0 : w.cell? ad = some (.int .i64 z) := by (have h0 : k = 0 := by omega); rw [h0, addr_nil] at hc; exact hc
        cases hb : inB z 0 1000000000
        · go_wp2_with (go_at_call 83; refine (l00In_any _ _ _ _).mono ?_; rintro e w1 ⟨rfl, rfl⟩)
          go_ret
          exact ⟨ret_bool (by rw [HV.out, allK_f _ zs 0 k z HZ.out (by rw [Nat.zero_add, He.out]; exact hb)]; simp), rfl⟩
        · go_wp2_with (go_at_call 83; refine (l00In_any _ _ _ _).mono ?_; rintro e w1 ⟨rfl, rfl⟩)
          go_round
          case rel => exact ⟨k + 1, by omega, by go_num, HU.out.step HZ.out (by rw [He.out]; exact hb)⟩
          case measure => simp [intOf]; omega
      · have he : pthE n k z = inB z 1 1000000000 := by unfold pthE; rw [(if_neg (by omega))]
        have He := Lib.hid he; clear he
        try have hc0 : w.cell? ad = some (.int .i64 z) := by (have h0 : k = 0 := by omega); rw [h0, addr_nil] at hc; exact hc
        cases hb : inB z 1 1000000000
        · go_wp2_with (go_at_call 83; refine (l00In_any _ _ _ _).mono ?_; rintro e w1 ⟨rfl, rfl⟩)
          go_ret
          exact ⟨ret_bool (by rw [HV.out, allK_f _ zs 0 k z HZ.out (by rw [Nat.zero_add, He.out]; exact hb)]; simp), rfl⟩
        · go_wp2_with (go_at_call 83; refine (l00In_any _ _ _ _).mono ?_; rintro e w1 ⟨rfl, rfl⟩)
          go_round
          case rel => exact ⟨k + 1, by omega, by go_num, HU.out.step HZ.out (by rw [He.out]; exact hb)⟩
          case measure => simp [intOf]; omega
      · have he : pthE n k z = inB z 1 1000000000 := by unfold pthE; rw [(if_neg (by omega))]
        have He := Lib.hid he; clear he
        try have hc0 : w.cell? ad = some (.int .i64 z) := by (have h0 : k = 0 := by omega); rw [h0, addr_nil] at hc; exact hc
        cases hb : inB z 1 1000000000
        · go_wp2_with (go_at_call 83; refine (l00In_any _ _ _ _).mono ?_; rintro e w1 ⟨rfl, rfl⟩)
          go_ret
          exact ⟨ret_bool (by rw [HV.out, allK_f _ zs 0 k z HZ.out (by rw [Nat.zero_add, He.out]; exact hb)]; simp), rfl⟩
        · go_wp2_with (go_at_call 83; refine (l00In_any _ _ _ _).mono ?_; rintro e w1 ⟨rfl, rfl⟩)
          go_round
          case rel => exact ⟨k + 1, by omega, by go_num, HU.out.step HZ.out (by rw [He.out]; exact hb)⟩
          case measure => simp [intOf]; omega
    · obtain rfl : n = k := by omega
      go_wp2
      go_ret
      refine ⟨ret_bool ?_, rfl⟩
      rw [HV.out, HU.out.all (by have := Hl.out; omega), Bool.and_true]
      rw [decide_eq_decide]; omega

end Go.Proofs.Ytbpaihbpaeoljaa
