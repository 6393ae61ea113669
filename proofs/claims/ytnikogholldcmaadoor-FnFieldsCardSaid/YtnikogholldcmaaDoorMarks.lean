/-
  Contracts of the laws' marks on lists and of their checks, and of the comparison of equal lists of fractions.
  No condition but that the lists have at most 2^40 elements.
-/
import Derived.Test.YtnikogholldcmaaDoorProg
import Derived.Test.YtnikogholldcmaaDoorMem
import Derived.Test.YtnikogholldcmaaDoorBasic
import Derived.Test.YtnikogholldcmaaDoorSig
import Derived.Handy
import Derived.BigQuiet
import Derived.Deep.QuietTactic
import Derived.Deep.RegionHeld3
import Derived.Deep.DrawnRows
namespace Go.Proofs.YtnikogholldcmaaDoor
open Go.RowKit
set_option linter.unusedVariables false
attribute [local go_sem ↓] Go.wp_at_zero Go.wp_at_succ

theorem grown_trans {a b c : World} {row : Option Nat} (h : a.grownBy b row) (k : b.grownBy c row) : a.grownBy c row :=
  ⟨k.os.trans h.os, k.tape.trans h.tape, k.output.trans h.output, Nat.le_trans h.size k.size, fun i hi hr => (k.block i (Nat.lt_of_lt_of_le hi h.size) hr).trans (h.block i hi hr)⟩

/-- The marks. -/
def mkI (k : Int) (n : Nat) : List Int := (List.range n).map fun j : Nat => k + (j : Int)
def mkP (k : Int) (n : Nat) : List (Int × Int) := (List.range n).map fun j : Nat => (k + 2 * (j : Int), k + 2 * (j : Int) + 1)
theorem mkI_len (k : Int) (n : Nat) : (mkI k n).length = n := by unfold mkI; simp
theorem mkP_len (k : Int) (n : Nat) : (mkP k n).length = n := by unfold mkP; simp
theorem mkI_get (k : Int) (n j : Nat) (h : j < n) : (mkI k n)[j]? = some (k + (j : Int)) := by unfold mkI; rw [List.getElem?_map, List.getElem?_range h]; rfl
theorem mkP_get (k : Int) (n j : Nat) (h : j < n) : (mkP k n)[j]? = some (k + 2 * (j : Int), k + 2 * (j : Int) + 1) := by unfold mkP; rw [List.getElem?_map, List.getElem?_range h]; rfl

theorem set_step {α : Type} (a b : List α) (j : Nat) (u : α) (hl : a.length = b.length) (hu : a[j]? = some u) : (a.take j ++ b.drop j).set j u = a.take (j + 1) ++ b.drop (j + 1) := by
  have hj : j < a.length := by
    rcases Nat.lt_or_ge j a.length with h | h
    · exact h
    · rw [List.getElem?_eq_none h] at hu; cases hu
  have ht : (a.take j).length = j := by rw [List.length_take]; omega
  rw [List.set_append_right _ _ (by omega), ht, Nat.sub_self, List.drop_eq_getElem_cons (show j < b.length by omega), List.set_cons_zero, List.take_add_one, hu]
  simp
theorem mix_get {α : Type} (a b : List α) (j i : Nat) (hl : a.length = b.length) (hi : j ≤ i) (hj : j ≤ a.length) : (a.take j ++ b.drop j)[i]? = b[i]? := by
  have ht : (a.take j).length = j := by rw [List.length_take]; omega
  rw [List.getElem?_append_right (by omega), ht, List.getElem?_drop]
  congr 1; omega

set_option maxHeartbeats 1000000 in
theorem markI_any (A : Option Addr) (n cap : Nat) (base : Nat) (xs : List Value) (k0 : Int) (w : World) (h : w.ownsRow base 2 1 (.slice A n cap) n xs) (h0 : 0 ≤ k0) (h1 : k0 ≤ 1099511627776) (hn : n ≤ 1099511627776) :
    Calls Tryd.prog 16 #[.slice A n cap, .int .i64 k0] w fun e w' => e = .returned (.int .i64 (k0 + n)) ∧ w'.ownsRow base 2 1 (.slice A n cap) n ((mkI k0 n).map (Value.int .i64)) ∧ w.grownBy w' (Value.slice A n cap).ownBlock := by
  have hxl : xs.length = n := own_len1 h
  rcases Nat.eq_zero_or_pos n with hz | hp
  · subst hz
    have hxs : xs = [] := List.eq_nil_of_length_eq_zero hxl
    subst hxs
    have hw := Lib.hid h; clear h hxl
    go_enter Tryd.func16, Tryd.ntmps16
    go_wp2
    go_loopw [1, 5] (fun k i wr => k = .int .i64 k0 ∧ i = .int .i64 0 ∧ wr = w) (fun _ _ _ => 0)
    case atStart => exact ⟨rfl, rfl, rfl⟩
    case round =>
      obtain ⟨rfl, rfl, rfl⟩ := hrel
      go_wp2
      go_ret
      exact ⟨ret_int (by omega), hw.out, World.grownBy.refl _ _⟩
  · obtain ⟨g, rfl, hbg, _⟩ := own_some h hp
    have hw := Lib.hid h
    have hl : ((mkI k0 n).map (Value.int .i64)).length = xs.length := by rw [List.length_map, mkI_len, hxl]
    have HL := Lib.hid hl
    have HX := Lib.hid hxl
    clear h hxl hl
    go_enter Tryd.func16, Tryd.ntmps16
    go_wp2
    go_loopw [1, 5] (fun k i wr => ∃ j : Nat, j ≤ n ∧ i = .int .i64 j ∧ k = .int .i64 (k0 + j) ∧ wr.ownsRow base 2 1 (.slice (some ⟨g, 0, none⟩) n cap) n (((mkI k0 n).map (Value.int .i64)).take j ++ xs.drop j) ∧ w.grownBy wr (some g)) (fun _ i _ => n - (intOf i).toNat)
    case atStart => exact ⟨0, Nat.zero_le _, rfl, by go_num, by simpa using hw.out, World.grownBy.refl _ _⟩
    case round =>
      obtain ⟨j, hj, rfl, rfl, hr, hg⟩ := hrel
      by_cases hlt : j < n
      · have hf := hr.frozenAt j
        obtain ⟨old, hold⟩ : ∃ old, xs[j]? = some old := ⟨_, List.getElem?_eq_getElem (by rw [HX.out]; exact hlt)⟩
        have hco : wr.cell? ⟨g, j, none⟩ = some old := by
          rw [hr.cellAt j (by omega), mix_get _ _ j j HL.out (Nat.le_refl _) (by rw [HL.out, HX.out]; omega)]; exact hold
        have hst := hr.stored j (.int .i64 (k0 + j))
        have hmk : ((mkI k0 n).map (Value.int .i64))[j]? = some (.int .i64 (k0 + (j : Int))) := by rw [List.getElem?_map, mkI_get k0 n j hlt]; rfl
        have hst1 := hst.1
        rw [set_step _ _ j _ HL.out hmk] at hst1
        have HS := Lib.hid hst1
        have HG := Lib.hid (grown_trans hg hst.2)
        clear hst hst1 hmk hold hr hg
        go_wp2
        go_roundw
        case rel => exact ⟨j + 1, by omega, by go_num, by go_num, HS.out, HG.out⟩
        case measure => simp [intOf]; omega
      · obtain rfl : n = j := by omega
        go_wp2
        go_ret
        rw [List.take_of_length_le (by rw [HL.out, HX.out]; omega), List.drop_of_length_le (by rw [HX.out]; omega), List.append_nil] at hr
        exact ⟨rfl, hr, hg⟩
theorem heldI_any (A : Option Addr) (n cap : Nat) (k0 : Int) (w : World) (h : IRow w A n (mkI k0 n)) (h0 : 0 ≤ k0) (h1 : k0 ≤ 1099511627776) (hn : n ≤ 1099511627776) :
    Calls Tryd.prog 17 #[.slice A n cap, .int .i64 k0] w fun e w' => e = .returned (.int .i64 (k0 + n)) ∧ w = w' := by
  have hw := Lib.hid h; clear h
  go_enter Tryd.func17, Tryd.ntmps17
  go_wp2
  go_loop [1, 5] (fun k i => ∃ j : Nat, j ≤ n ∧ i = .int .i64 j ∧ k = .int .i64 (k0 + j)) (fun _ i => n - (intOf i).toNat)
  case atStart => exact ⟨0, Nat.zero_le _, rfl, by go_num⟩
  case round =>
    obtain ⟨j, hj, rfl, rfl⟩ := hrel
    by_cases hlt : j < n
    · obtain ⟨ad, z, rfl, hz, z1, z2, hc⟩ := hw.out.at_ hlt
      rw [mkI_get k0 n j hlt] at hz
      injection hz with hz
      subst hz
      go_wp2
      go_round
      case rel => exact ⟨j + 1, by omega, by go_num, by go_num⟩
      case measure => simp [intOf]; omega
    · obtain rfl : n = j := by omega
      go_wp2
      go_ret
      exact ⟨rfl, rfl⟩

set_option maxHeartbeats 1000000 in
theorem markS_any (A : Option Addr) (n cap : Nat) (base : Nat) (zs : List (Int × Int)) (k0 : Int) (w : World) (h : w.ownsRow base 78 2 (.slice A n cap) n (prs zs)) (h0 : 0 ≤ k0) (h1 : k0 ≤ 1099511627776) (hn : n ≤ 1099511627776) :
    Calls Tryd.prog 53 #[.slice A n cap, .int .i64 k0] w fun e w' => e = .returned (.int .i64 (k0 + 2 * n)) ∧ w'.ownsRow base 78 2 (.slice A n cap) n (prs (mkP k0 n)) ∧ w.grownBy w' (Value.slice A n cap).ownBlock := by
  have hxl : zs.length = n := by have := h.1; rw [prs_length] at this; omega
  rcases Nat.eq_zero_or_pos n with hz | hp
  · subst hz
    have hxs : zs = [] := List.eq_nil_of_length_eq_zero hxl
    subst hxs
    have hw := Lib.hid h; clear h hxl
    go_enter Tryd.func53, Tryd.ntmps53
    go_wp2
    go_loopw [1, 5] (fun k i wr => k = .int .i64 k0 ∧ i = .int .i64 0 ∧ wr = w) (fun _ _ _ => 0)
    case atStart => exact ⟨rfl, rfl, rfl⟩
    case round =>
      obtain ⟨rfl, rfl, rfl⟩ := hrel
      go_wp2
      go_ret
      exact ⟨ret_int (by omega), hw.out, World.grownBy.refl _ _⟩
  · obtain ⟨g, rfl, hbg, _⟩ := own_some h hp
    have hw := Lib.hid h
    have hl : (prs (mkP k0 n)).length = (prs zs).length := by rw [prs_length, prs_length, mkP_len, hxl]
    have hx2 : (prs zs).length = n * 2 := by rw [prs_length, hxl]
    have HL := Lib.hid hl
    have HX := Lib.hid hx2
    clear h hxl hl hx2
    go_enter Tryd.func53, Tryd.ntmps53
    go_wp2
    go_loopw [1, 5] (fun k i wr => ∃ j : Nat, j ≤ n ∧ i = .int .i64 j ∧ k = .int .i64 (k0 + 2 * j) ∧ wr.ownsRow base 78 2 (.slice (some ⟨g, 0, none⟩) n cap) n ((prs (mkP k0 n)).take (j * 2) ++ (prs zs).drop (j * 2)) ∧ w.grownBy wr (some g)) (fun _ i _ => n - (intOf i).toNat)
    case atStart => exact ⟨0, Nat.zero_le _, rfl, by go_num, by simpa using hw.out, World.grownBy.refl _ _⟩
    case round =>
      obtain ⟨j, hj, rfl, rfl, hr, hg⟩ := hrel
      by_cases hlt : j < n
      · have hf := hr.frozenAt (j * 2)
        have hf' := hr.frozenAt (j * 2 + 1)
        obtain ⟨old, hold⟩ : ∃ old, (prs zs)[j * 2]? = some old := ⟨_, List.getElem?_eq_getElem (by rw [HX.out]; omega)⟩
        obtain ⟨old', hold'⟩ : ∃ old, (prs zs)[j * 2 + 1]? = some old := ⟨_, List.getElem?_eq_getElem (by rw [HX.out]; omega)⟩
        have hco : wr.cell? ⟨g, j * 2, none⟩ = some old := by
          rw [hr.cellAt (j * 2) (by omega), mix_get _ _ (j * 2) (j * 2) HL.out (Nat.le_refl _) (by rw [HL.out, HX.out]; omega)]; exact hold
        have hco' : wr.cell? ⟨g, j * 2 + 1, none⟩ = some old' := by
          rw [hr.cellAt (j * 2 + 1) (by omega), mix_get _ _ (j * 2) (j * 2 + 1) HL.out (by omega) (by rw [HL.out, HX.out]; omega)]; exact hold'
        have hst := hr.stored (j * 2) (.int .i64 (k0 + 2 * j))
        have hst' := hst.1.stored (j * 2 + 1) (.int .i64 (k0 + 2 * j + 1))
        have hmk := prs_get1 _ _ _ (mkP_get k0 n j hlt)
        have hmk' := prs_get2 _ _ _ (mkP_get k0 n j hlt)
        have hst1 := hst'.1
        rw [set_step _ _ (j * 2) _ HL.out hmk, set_step _ _ (j * 2 + 1) _ HL.out hmk', show j * 2 + 1 + 1 = (j + 1) * 2 from by omega] at hst1
        have HS := Lib.hid hst1
        have HG := Lib.hid (grown_trans (grown_trans hg hst.2) hst'.2)
        clear hst hst' hst1 hmk hmk' hold hold' hr hg
        go_wp2
        go_roundw
        case rel => exact ⟨j + 1, by omega, by go_num, by go_num, HS.out, HG.out⟩
        case measure => simp [intOf]; omega
      · obtain rfl : n = j := by omega
        go_wp2
        go_ret
        rw [List.take_of_length_le (by rw [HL.out, HX.out]; omega), List.drop_of_length_le (by rw [HX.out]; omega), List.append_nil] at hr
        exact ⟨rfl, hr, hg⟩
set_option maxHeartbeats 1000000 in
theorem heldS_any (A : Option Addr) (n cap : Nat) (k0 : Int) (w : World) (h : PRow w A n (mkP k0 n)) (h0 : 0 ≤ k0) (h1 : k0 ≤ 1099511627776) (hn : n ≤ 1099511627776) :
    Calls Tryd.prog 54 #[.slice A n cap, .int .i64 k0] w fun e w' => e = .returned (.int .i64 (k0 + 2 * n)) ∧ w = w' := by
  have hw := Lib.hid h; clear h
  go_enter Tryd.func54, Tryd.ntmps54
  go_wp2
  go_loop [1, 5] (fun k i => ∃ j : Nat, j ≤ n ∧ i = .int .i64 j ∧ k = .int .i64 (k0 + 2 * j)) (fun _ i => n - (intOf i).toNat)
  case atStart => exact ⟨0, Nat.zero_le _, rfl, by go_num⟩
  case round =>
    obtain ⟨j, hj, rfl, rfl⟩ := hrel
    by_cases hlt : j < n
    · obtain ⟨bb, o, x, y, rfl, hz, _, _, _, _, hc1, hc2⟩ := hw.out.at_ hlt
      rw [mkP_get k0 n j hlt] at hz
      injection hz with hz
      injection hz with hz1 hz2
      subst hz1 hz2
      go_wp2
      go_round
      case rel => exact ⟨j + 1, by omega, by go_num, by go_num⟩
      case measure => simp [intOf]; omega
    · obtain rfl : n = j := by omega
      go_wp2
      go_ret
      exact ⟨rfl, rfl⟩
end Go.Proofs.YtnikogholldcmaaDoor
