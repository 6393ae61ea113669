/-
  Contracts of the laws' helpers on lists of int64: the copy, the comparison of equal lists, the marks and their check.
  No condition but that the lists have at most 1048576 elements.
-/
import Derived.Test.YtnikogholldcmaaDoorProg
import Derived.Test.YtnikogholldcmaaDoorMem
import Derived.Handy
import Derived.BigQuiet
import Derived.Deep.QuietTactic
namespace Go.Proofs.YtnikogholldcmaaDoor
open Go.RowKit
set_option linter.unusedVariables false

theorem info_i64 : (Tryd.prog.info? 2).map (fun i => (i.zero, i.size, i.bytes)) = some (some (.int .i64 0), 1, 8) := by kernel_rfl

theorem toInt64S_any (A : Option Addr) (n cap : Nat) (zs : List Int) (w : World) (h : IRow w A n zs) (hn : n ≤ 1048576) :
    Calls Tryd.prog 34 #[.slice A n cap] w fun e w' => ∃ A' c, e = .returned (.slice A' n c) ∧ w'.ownsRow w.heap.size 2 1 (.slice A' n c) n (zs.map (Value.int .i64)) ∧ Below w.heap.size w w' := by
  have hlen := Lib.hid h.len
  obtain ⟨i0, hi, hz0, hz1, hz2⟩ := info_parts info_i64
  have hw := Lib.hid h; clear h
  go_enter Tryd.func34, Tryd.ntmps34
  go_wp2_with (at_make; refine wpList_make_full _ rfl _ _ 22 rfl w.heap.size 2 i0 (.int .i64 0) 1 Tryd.underlying22 hi hz0 hz1 .i64 .i64 n n n rfl rfl rfl rfl ?c1 ?c2 ?c3 ?_)
  case c1 => rw [hz2]; omega
  case c2 => unfold maxLen; omega
  case c3 => exact Nat.le_refl _
  intro w1 hown hg
  have hb1 : Below w.heap.size w w1 := (Below.refl _ _).grown hg (Nat.le_refl _) (fun k hk => by cases hk)
  have hrow : w1.ownsRow w.heap.size 2 1 (.slice (some ⟨w.heap.size, 0, none⟩) n n) n ((zs.take 0).map (Value.int .i64) ++ List.replicate (n - 0) (.int .i64 0)) := by
    rw [show (zs.take 0).map (Value.int .i64) ++ List.replicate (n - 0) (Value.int .i64 0) = (madeCells #[Value.int .i64 0] n).toList from by rw [toList_madeCells_one]; simp]
    exact hown
  clear hown hg hi hz0 hz1 hz2
  go_wp2
  go_loopw [4] (fun i wr => ∃ k : Nat, k ≤ n ∧ i = .int .i64 k ∧ wr.ownsRow w.heap.size 2 1 (.slice (some ⟨w.heap.size, 0, none⟩) n n) n ((zs.take k).map (Value.int .i64) ++ List.replicate (n - k) (.int .i64 0)) ∧ Below w.heap.size w wr) (fun i _ => n - (intOf i).toNat)
  case atStart => exact ⟨0, Nat.zero_le _, rfl, hrow, hb1⟩
  case round =>
    obtain ⟨k, hk, rfl, hr, hb⟩ := hrel
    clear hrow hb1
    by_cases hlt : k < n
    · obtain ⟨ad, z, rfl, hz, z1, z2, hc⟩ := (hw.out.below hb).at_ hlt
      have hf := hr.frozenAt k
      have hco : wr.cell? ⟨w.heap.size, k, none⟩ = some (.int .i64 0) := by
        rw [hr.cellAt k (by omega)]; exact fill_get (Value.int .i64) (.int .i64 0) zs n k hlen.out hlt
      have hst := (hr.stored k (.int .i64 z)).1
      rw [fill_step (Value.int .i64) (.int .i64 0) zs n k z hlen.out hlt hz] at hst
      have hbs : Below w.heap.size w (wr.setCell ⟨w.heap.size, k, none⟩ (.int .i64 z)) := hb.setCell (p := ⟨w.heap.size, k, none⟩) (Nat.le_refl _) _
      have HS := Lib.hid hst
      have HZ := Lib.hid hz
      clear hst hz hr hb
      go_wp2
      go_roundw
      case rel => exact ⟨k + 1, by omega, by go_num, HS.out, hbs⟩
      case measure => simp [intOf]; omega
    · obtain rfl : n = k := by omega
      go_wp2
      go_ret
      refine ⟨_, _, rfl, ?_, hb⟩
      have e : (zs.take n).map (Value.int .i64) ++ List.replicate (n - n) (.int .i64 0) = zs.map (Value.int .i64) := by
        rw [Nat.sub_self, List.take_of_length_le (by have := hlen.out; omega)]; simp
      rw [e] at hr
      exact hr

theorem eqInt64S_same (A : Option Addr) (n cap : Nat) (A' : Option Addr) (cap' : Nat) (zs : List Int) (w : World) (h : IRow w A n zs) (h' : IRow w A' n zs) :
    Calls Tryd.prog 15 #[.slice A n cap, .slice A' n cap'] w fun e w' => e = .returned (.bool true) ∧ Below w.heap.size w w' := by
  have hbd := h.bd
  have hw := Lib.hid h; clear h
  have hw' := Lib.hid h'; clear h'
  go_enter Tryd.func15, Tryd.ntmps15
  go_wp2
  go_loopw [5] (fun i wr => ∃ k : Nat, k ≤ n ∧ i = .int .i64 k ∧ Below w.heap.size w wr) (fun i _ => n - (intOf i).toNat)
  case atStart => exact ⟨0, Nat.zero_le _, rfl, Below.refl _ _⟩
  case round =>
    obtain ⟨k, hk, rfl, hb⟩ := hrel
    by_cases hlt : k < n
    · obtain ⟨ad, z, rfl, hz, z1, z2, hc⟩ := (hw.out.below hb).at_ hlt
      obtain ⟨ad', z', rfl, hz', z1', z2', hc'⟩ := (hw'.out.below hb).at_ hlt
      rw [hz] at hz'; injection hz' with hz'; subst hz'
      have HZ := Lib.hid hz; clear hz
      have hb0 : (0 : Int) ≤ (k : Int) := by omega
      have hb1 : (k : Int) < (n : Int) := by omega
      go_wp2
      go_quiet (fail)
      go_wp2
      go_roundw
      case rel => exact ⟨k + 1, by omega, by go_num, hb.trans ⟨rfl, rfl, rfl, Nat.le_refl _, fun _ _ => rfl⟩⟩
      case measure => simp [intOf]; omega
    · obtain rfl : n = k := by omega
      go_wp2
      go_ret
      exact ⟨rfl, hb⟩
end Go.Proofs.YtnikogholldcmaaDoor
