/-
  Contracts of the laws' helpers on lists of terms with signs: the size, the copy, the comparison of equal lists; the comparisons of the program and the reference; the walk of the law FnExactSameSigned.
  No condition but those of the law's own text.
-/
import Derived.Test.YtnikogholldcmaaDoorProg
import Derived.Test.YtnikogholldcmaaDoorMem
import Derived.Test.YtnikogholldcmaaDoorBasic
import Derived.Test.YtnikogholldcmaaDoorAllk
import Derived.Handy
import Derived.Laws.StructEq
import Derived.BigQuiet
import Derived.Deep.QuietTactic
import Derived.Deep.RegionHeld3
import Derived.Deep.DrawnRows
namespace Go.Proofs.YtnikogholldcmaaDoor
open Go.RowKit
set_option linter.unusedVariables false
attribute [local go_sem ↓] Go.wp_at_zero Go.wp_at_succ

theorem info_sig : (Tryd.prog.info? 78).map (fun i => (i.zero, i.size, i.bytes)) = some (some (.agg #[.int .i64 0, .int .i64 0]), 2, 16) := by kernel_rfl

theorem sz_over (A : Option Addr) (n cap : Nat) (left : Int) (w : World) (hn : n ≤ 9223372036854775807) (h1 : 0 ≤ left) (h2 : left ≤ 1048576) (h : left < n) :
    Calls Tryd.prog 28 #[.slice A n cap, .int .i64 left] w fun e w' => e = .returned (.int .i64 (-1)) ∧ w = w' := by
  have h' : left - (n : Int) < 0 := by omega
  go_enter Tryd.func28, Tryd.ntmps28
  go_wp2
  go_ret
  exact ⟨rfl, rfl⟩
theorem sz_fits (A : Option Addr) (n cap : Nat) (left : Int) (w : World) (hn : n ≤ 9223372036854775807) (h1 : 0 ≤ left) (h2 : left ≤ 1048576) (h : ¬ left < n) :
    Calls Tryd.prog 28 #[.slice A n cap, .int .i64 left] w fun e w' => e = .returned (.int .i64 (left - n)) ∧ w = w' := by
  have h' : ¬ left - (n : Int) < 0 := by omega
  go_enter Tryd.func28, Tryd.ntmps28
  go_wp2
  go_ret
  exact ⟨rfl, rfl⟩

theorem toSignedTerm_any (p q : Int) (w : World) : Calls Tryd.prog 72 #[.agg #[.int .i64 p, .int .i64 q]] w fun e w' => e = .returned (.agg #[.int .i64 p, .int .i64 q]) ∧ Below w.heap.size w w' := by
  go_enter Tryd.func72, Tryd.ntmps72
  go_wp2
  go_returns
  exact ⟨rfl, by go_grown⟩
theorem eqSignedTerm_same (p q : Int) (w : World) : Calls Tryd.prog 74 #[.agg #[.int .i64 p, .int .i64 q], .agg #[.int .i64 p, .int .i64 q]] w fun e w' => e = .returned (.bool true) ∧ Below w.heap.size w w' := by
  go_enter Tryd.func74, Tryd.ntmps74
  go_wp2
  all_goals (try go_quiet (fail))
  all_goals (try go_wp2)
  all_goals (try go_quiet (fail))
  all_goals (try go_wp2)
  go_ret
  exact ⟨rfl, by go_grown⟩

theorem prs_fill (zs : List (Int × Int)) (n k : Nat) (x y : Int) (hl : zs.length = n) (hk : k < n) (hz : zs[k]? = some (x, y)) :
    ((prs (zs.take k) ++ List.replicate ((n - k) * 2) (Value.int .i64 0)).set (k * 2) (Value.int .i64 x)).set (k * 2 + 1) (.int .i64 y) = prs (zs.take (k + 1)) ++ List.replicate ((n - (k + 1)) * 2) (.int .i64 0) := by
  have ht : (prs (zs.take k)).length = k * 2 := by rw [prs_length, List.length_take]; omega
  obtain ⟨m, hm⟩ : ∃ m, n - k = m + 1 := ⟨n - k - 1, by omega⟩
  rw [List.set_append_right _ _ (by omega), ht, Nat.sub_self, hm, show (m + 1) * 2 = m * 2 + 1 + 1 from by omega, List.replicate_succ, List.replicate_succ, List.set_cons_zero, List.set_append_right _ _ (by omega), ht, show k * 2 + 1 - k * 2 = 1 from by omega, List.take_add_one, hz, prs_append, show n - (k + 1) = m from by omega]
  simp [prs]
theorem prs_zero (n k : Nat) (zs : List (Int × Int)) (hl : zs.length = n) (hk : k < n) (j : Nat) (hj : j < 2) : (prs (zs.take k) ++ List.replicate ((n - k) * 2) (Value.int .i64 0))[k * 2 + j]? = some (.int .i64 0) := by
  have ht : (prs (zs.take k)).length = k * 2 := by rw [prs_length, List.length_take]; omega
  rw [List.getElem?_append_right (by omega), ht, List.getElem?_replicate, if_pos (by omega)]

theorem made2 (n : Nat) : (madeCells #[Value.int .i64 0, Value.int .i64 0] (n * 2)).toList = List.replicate (n * 2) (.int .i64 0) := by
  apply List.ext_getElem?
  intro j
  by_cases hj : j < n * 2
  · simp only [madeCells, Array.getElem?_toList]
    rcases (by omega : j % 2 = 0 ∨ j % 2 = 1) with h | h <;> simp [hj, h]
  · simp [madeCells, hj]

set_option maxHeartbeats 1000000 in
theorem toSignedTermS_any (A : Option Addr) (n cap : Nat) (zs : List (Int × Int)) (w : World) (h : PRow w A n zs) (hn : n ≤ 1048576) :
    Calls Tryd.prog 30 #[.slice A n cap] w fun e w' => ∃ A' c, e = .returned (.slice A' n c) ∧ w'.ownsRow w.heap.size 78 2 (.slice A' n c) n (prs zs) ∧ Below w.heap.size w w' := by
  have hlen := Lib.hid h.len
  obtain ⟨i0, hi, hz0, hz1, hz2⟩ := info_parts info_sig
  have hw := Lib.hid h; clear h
  go_enter Tryd.func30, Tryd.ntmps30
  go_wp2_with (at_make; refine wpList_make_full _ rfl _ _ 43 rfl w.heap.size 78 i0 (.agg #[.int .i64 0, .int .i64 0]) 2 Tryd.underlying43 hi hz0 hz1 .i64 .i64 n n n rfl rfl rfl rfl ?c1 ?c2 ?c3 ?_)
  case c1 => rw [hz2]; omega
  case c2 => unfold maxLen; omega
  case c3 => exact Nat.le_refl _
  intro w1 hown hg
  have hb1 : Below w.heap.size w w1 := (Below.refl _ _).grown hg (Nat.le_refl _) (fun k hk => by cases hk)
  have hrow : w1.ownsRow w.heap.size 78 2 (.slice (some ⟨w.heap.size, 0, none⟩) n n) n (prs (zs.take 0) ++ List.replicate ((n - 0) * 2) (.int .i64 0)) := by
    rw [show prs (zs.take 0) ++ List.replicate ((n - 0) * 2) (Value.int .i64 0) = (madeCells #[Value.int .i64 0, Value.int .i64 0] (n * 2)).toList from by rw [made2]; simp [prs]]
    exact hown
  have hlt1 : w.heap.size < w1.heap.size := (hown.lt _ rfl).2
  clear hown hg hi hz0 hz1 hz2
  go_wp2
  go_loopw [4] (fun i wr => ∃ k : Nat, k ≤ n ∧ i = .int .i64 k ∧ wr.ownsRow w.heap.size 78 2 (.slice (some ⟨w.heap.size, 0, none⟩) n n) n (prs (zs.take k) ++ List.replicate ((n - k) * 2) (.int .i64 0)) ∧ Below w.heap.size w wr ∧ w.heap.size < wr.heap.size) (fun i _ => n - (intOf i).toNat)
  case atStart => exact ⟨0, Nat.zero_le _, rfl, hrow, hb1, hlt1⟩
  case round =>
    obtain ⟨k, hk, rfl, hr, hb, hsz⟩ := hrel
    clear hrow hb1 hlt1
    by_cases hlt : k < n
    · obtain ⟨bb, o, x, y, rfl, hz, x1, x2, y1, y2, hcx, hcy⟩ := (hw.out.below hb).at_ hlt
      have HZ := Lib.hid hz
      clear hz
      go_wp2_with fail
      refine (toSignedTerm_any x y _).mono ?_
      rintro e w2 ⟨rfl, hb2⟩
      replace hr := own_below hr hb2
      replace hb := hb.trans (hb2.mono (by omega))
      replace hsz : w.heap.size < w2.heap.size := by have := hb2.size; omega
      clear hb2 hcx hcy
      have hf := hr.frozenAt (k * 2)
      have hf' := hr.frozenAt (k * 2 + 1)
      have hco : w2.cell? ⟨w.heap.size, k * 2, none⟩ = some (.int .i64 0) := by
        rw [hr.cellAt (k * 2) (by omega)]; exact prs_zero n k zs hlen.out hlt 0 (by omega)
      have hco' : w2.cell? ⟨w.heap.size, k * 2 + 1, none⟩ = some (.int .i64 0) := by
        rw [hr.cellAt (k * 2 + 1) (by omega)]; exact prs_zero n k zs hlen.out hlt 1 (by omega)
      have hst := ((hr.stored (k * 2) (.int .i64 x)).1.stored (k * 2 + 1) (.int .i64 y)).1
      rw [prs_fill zs n k x y hlen.out hlt HZ.out] at hst
      have hbs : Below w.heap.size w ((w2.setCell ⟨w.heap.size, k * 2, none⟩ (.int .i64 x)).setCell ⟨w.heap.size, k * 2 + 1, none⟩ (.int .i64 y)) := (hb.setCell (p := ⟨w.heap.size, k * 2, none⟩) (Nat.le_refl _) _).setCell (p := ⟨w.heap.size, k * 2 + 1, none⟩) (Nat.le_refl _) _
      have HS := Lib.hid hst
      clear hst hr hb
      go_wp2
      go_roundw
      case rel => exact ⟨k + 1, by omega, by go_num, HS.out, hbs, by simpa using hsz⟩
      case measure => simp [intOf]; omega
    · obtain rfl : n = k := by omega
      go_wp2
      go_ret
      refine ⟨_, _, rfl, ?_, hb⟩
      rw [Nat.sub_self, List.take_of_length_le (by have := hlen.out; omega)] at hr
      simpa using hr

section
variable {w W w1 : World} {a b c d : Addr} {x y z u : Value}
theorem four_keep (h : W.cell? a = some x ∧ W.cell? b = some y ∧ W.cell? c = some z ∧ W.cell? d = some u ∧ Below w.heap.size w W) (hb : Below W.heap.size W w1) :
    w1.cell? a = some x ∧ w1.cell? b = some y ∧ w1.cell? c = some z ∧ w1.cell? d = some u ∧ Below w.heap.size w w1 :=
  ⟨(hb.cell (World.block_lt_of_cell? W a h.1)).trans h.1, (hb.cell (World.block_lt_of_cell? W b h.2.1)).trans h.2.1, (hb.cell (World.block_lt_of_cell? W c h.2.2.1)).trans h.2.2.1, (hb.cell (World.block_lt_of_cell? W d h.2.2.2.1)).trans h.2.2.2.1,
    h.2.2.2.2.trans (hb.mono h.2.2.2.2.size)⟩
theorem four_drew (h : W.cell? a = some x ∧ W.cell? b = some y ∧ W.cell? c = some z ∧ W.cell? d = some u ∧ Below w.heap.size w W) :
    W.drew.cell? a = some x ∧ W.drew.cell? b = some y ∧ W.drew.cell? c = some z ∧ W.drew.cell? d = some u ∧ Below w.heap.size w W.drew := ⟨h.1, h.2.1, h.2.2.1, h.2.2.2.1, h.2.2.2.2.drew⟩
theorem four_below (h : W.cell? a = some x ∧ W.cell? b = some y ∧ W.cell? c = some z ∧ W.cell? d = some u ∧ Below w.heap.size w W) : Below w.heap.size w W := h.2.2.2.2
end
theorem eqSignedTermS_same (A : Option Addr) (n cap : Nat) (A' : Option Addr) (cap' : Nat) (zs : List (Int × Int)) (w : World) (h : PRow w A n zs) (h' : PRow w A' n zs) :
    Calls Tryd.prog 32 #[.slice A n cap, .slice A' n cap'] w fun e w' => e = .returned (.bool true) ∧ Below w.heap.size w w' := by
  have hbd := h.bd
  have hw := Lib.hid h; clear h
  have hw' := Lib.hid h'; clear h'
  go_enter Tryd.func32, Tryd.ntmps32
  go_wp2
  go_loopw [5] (fun i wr => ∃ k : Nat, k ≤ n ∧ i = .int .i64 k ∧ Below w.heap.size w wr) (fun i _ => n - (intOf i).toNat)
  case atStart => exact ⟨0, Nat.zero_le _, rfl, Below.refl _ _⟩
  case round =>
    obtain ⟨k, hk, rfl, hb⟩ := hrel
    by_cases hlt : k < n
    · obtain ⟨bb, o, x, y, rfl, hz, x1, x2, y1, y2, hc1, hc2⟩ := (hw.out.below hb).at_ hlt
      obtain ⟨bb', o', x', y', rfl, hz', _, _, _, _, hc1', hc2'⟩ := (hw'.out.below hb).at_ hlt
      rw [hz] at hz'; injection hz' with hz'; injection hz' with e1 e2; subst e1 e2
      clear hz
      have hb0 : (0 : Int) ≤ (k : Int) := by omega
      have hb1 : (k : Int) < (n : Int) := by omega
      go_wp2
      go_region_held3 (fun w' => w'.cell? ⟨bb, o + k * 2, none⟩ = some (.int .i64 x) ∧ w'.cell? ⟨bb, o + k * 2 + 1, none⟩ = some (.int .i64 y) ∧ w'.cell? ⟨bb', o' + k * 2, none⟩ = some (.int .i64 x) ∧ w'.cell? ⟨bb', o' + k * 2 + 1, none⟩ = some (.int .i64 y) ∧ Below w.heap.size w w')
        (first | exact four_keep (by assumption) hbb | exact four_drew ⟨hc1, hc2, hc1', hc2', hb⟩ | exact four_drew (by assumption))
        (first | (go_at_call 74; refine (eqSignedTerm_same x y _).mono ?_; rintro e w1 ⟨rfl, hbb⟩))
      go_wp2
      go_roundw
      case rel => exact ⟨k + 1, by omega, by go_num, four_below (by assumption)⟩
      case measure => simp [intOf]; omega
    · obtain rfl : n = k := by omega
      go_wp2
      go_ret
      exact ⟨rfl, hb⟩

theorem eqSigT (a b c d : Int) (w : World) : (Op.equalIn 10000 78 (.agg #[.int .i64 a, .int .i64 b]) (.agg #[.int .i64 c, .int .i64 d])).run Tryd.prog w = .ok (a == c && b == d) w := by
  have u3 := Tryd.underlying2
  have hS : Tryd.prog.underlying 78 = some (.struct (Tryd.prog.fieldsOf 78)) := by kernel_rfl
  have hp : Tryd.prog.stoodInHeld 78 = false := by kernel_rfl
  rw [show (10000 : Nat) = 9999 + 1 from rfl, run_equalIn_agg w 9999 78 _ _ hS hp]
  simp only [Program.fieldsOf, Tryd.underlying78]
  go_simp
  by_cases h1 : a = c <;> by_cases h2 : b = d <;> simp [h1, h2]

/-- Two lists of pairs are equal. -/
def sameB (zs ys : List (Int × Int)) : Bool := decide (zs = ys)
def Alike (zs ys : List (Int × Int)) (k : Nat) : Prop := ∀ j, j < k → zs[j]? = ys[j]?
theorem Alike.all {zs ys : List (Int × Int)} {k : Nat} (h : Alike zs ys k) (h1 : zs.length ≤ k) (h2 : ys.length ≤ k) : zs = ys := List.ext_getElem? fun j => by
  rcases Nat.lt_or_ge j k with hj | hj
  · exact h j hj
  · rw [List.getElem?_eq_none (by omega), List.getElem?_eq_none (by omega)]
theorem Alike.step {zs ys : List (Int × Int)} {k : Nat} (h : Alike zs ys k) (e : zs[k]? = ys[k]?) : Alike zs ys (k + 1) := fun j hj => by
  rcases Nat.lt_or_ge j k with h' | h'
  · exact h j h'
  · obtain rfl : j = k := by omega
    exact e


end Go.Proofs.YtnikogholldcmaaDoor
