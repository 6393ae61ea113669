/-
  Contracts of the laws' helpers on lists of terms with signs: the size, the copy, the comparison of equal lists; the comparisons of the program and the reference; the walk of the law FnExactSameSigned.
  No condition but those of the law's own text.
-/
import Derived.Test.YtlpglibnjmjjkaaProg
import Derived.Test.YtlpglibnjmjjkaaMem
import Derived.Test.YtlpglibnjmjjkaaBasic
import Derived.Test.YtlpglibnjmjjkaaAllk
import Derived.Handy
import Derived.Laws.StructEq
import Derived.BigQuiet
import Derived.Deep.QuietTactic
import Derived.Deep.RegionHeld3
import Derived.Deep.DrawnRows
namespace Go.Proofs.Ytlpglibnjmjjkaa
open Go.RowKit
set_option linter.unusedVariables false
attribute [local go_sem ↓] Go.wp_at_zero Go.wp_at_succ

theorem info_sig : (Try.prog.info? 51).map (fun i => (i.zero, i.size, i.bytes)) = some (some (.agg #[.int .i64 0, .int .i64 0]), 2, 16) := by kernel_rfl



theorem prs_fill (zs : List (Int × Int)) (n k : Nat) (x y : Int) (hl : zs.length = n) (hk : k < n) (hz : zs[k]? = some (x, y)) :
    ((prs (zs.take k) ++ List.replicate ((n - k) * 2) (Value.int .i64 0)).set (k * 2) (Value.int .i64 x)).set (k * 2 + 1) (.int .i64 y) = prs (zs.take (k + 1)) ++ List.replicate ((n - (k + 1)) * 2) (.int .i64 0) := by
  have ht : (prs (zs.take k)).length = k * 2 := by rw [prs_length, List.length_take]; omega
  obtain ⟨m, hm⟩ : ∃ m, n - k = m + 1 := ⟨n - k - 1, by omega⟩
  rw [List.set_append_right _ _ (by omega), ht, Nat.sub_self, hm, show (m + 1) * 2 = m * 2 + 1 + 1 from by omega, List.replicate_succ, List.replicate_succ, List.set_cons_zero, List.set_append_right _ _ (by omega), ht, show k * 2 + 1 - k * 2 = 1 from by omega, List.take_add_one, hz, prs_append, show n - (k + 1) = m from by omega]
  simp [prs]
theorem prs_zero (n k : Nat) (zs : List (Int × Int)) (hl : zs.length = n) (hk : k < n) (j : Nat) (hj : j < 2) : (prs (zs.take k) ++ List.replicate ((n - k) * 2) (Value.int .i64 0))[k * 2 + j]? = some (.int .i64 0) := by
  have ht : (prs (zs.take k)).length = k * 2 := by rw [prs_length, List.length_take]; omega
  rw [List.getElem?_append_right (by omega), ht, List.getElem?_replicate, if_pos (by omega)]

theorem made2 (n : Nat) : (madeCells #[Value.int .i64 0, Value.int .i64 0] (n * 2)).toList = List.replicate (n * 2) (.int .i64 0) := by
  apply List.ext_getElem?
  intro j
  by_cases hj : j < n * 2
  · simp only [madeCells, Array.getElem?_toList]
    rcases (by omega : j % 2 = 0 ∨ j % 2 = 1) with h | h <;> simp [hj, h]
  · simp [madeCells, hj]


section
variable {w W w1 : World} {a b c d : Addr} {x y z u : Value}
theorem four_keep (h : W.cell? a = some x ∧ W.cell? b = some y ∧ W.cell? c = some z ∧ W.cell? d = some u ∧ Below w.heap.size w W) (hb : Below W.heap.size W w1) :
    w1.cell? a = some x ∧ w1.cell? b = some y ∧ w1.cell? c = some z ∧ w1.cell? d = some u ∧ Below w.heap.size w w1 :=
  ⟨(hb.cell (World.block_lt_of_cell? W a h.1)).trans h.1, (hb.cell (World.block_lt_of_cell? W b h.2.1)).trans h.2.1, (hb.cell (World.block_lt_of_cell? W c h.2.2.1)).trans h.2.2.1, (hb.cell (World.block_lt_of_cell? W d h.2.2.2.1)).trans h.2.2.2.1,
    h.2.2.2.2.trans (hb.mono h.2.2.2.2.size)⟩
theorem four_drew (h : W.cell? a = some x ∧ W.cell? b = some y ∧ W.cell? c = some z ∧ W.cell? d = some u ∧ Below w.heap.size w W) :
    W.drew.cell? a = some x ∧ W.drew.cell? b = some y ∧ W.drew.cell? c = some z ∧ W.drew.cell? d = some u ∧ Below w.heap.size w W.drew := ⟨h.1, h.2.1, h.2.2.1, h.2.2.2.1, h.2.2.2.2.drew⟩
theorem four_below (h : W.cell? a = some x ∧ W.cell? b = some y ∧ W.cell? c = some z ∧ W.cell? d = some u ∧ Below w.heap.size w W) : Below w.heap.size w W := h.2.2.2.2
end

theorem eqSigT (a b c d : Int) (w : World) : (Op.equalIn 10000 51 (.agg #[.int .i64 a, .int .i64 b]) (.agg #[.int .i64 c, .int .i64 d])).run Try.prog w = .ok (a == c && b == d) w := by
  have u3 := Try.underlying2
  have hS : Try.prog.underlying 51 = some (.struct (Try.prog.fieldsOf 51)) := by kernel_rfl
  have hp : Try.prog.stoodInHeld 51 = false := by kernel_rfl
  rw [show (10000 : Nat) = 9999 + 1 from rfl, run_equalIn_agg w 9999 51 _ _ hS hp]
  simp only [Program.fieldsOf, Try.underlying51]
  go_simp
  by_cases h1 : a = c <;> by_cases h2 : b = d <;> simp [h1, h2]

/-- Two lists of pairs are equal. -/
def sameB (zs ys : List (Int × Int)) : Bool := decide (zs = ys)
def Alike (zs ys : List (Int × Int)) (k : Nat) : Prop := ∀ j, j < k → zs[j]? = ys[j]?
theorem Alike.all {zs ys : List (Int × Int)} {k : Nat} (h : Alike zs ys k) (h1 : zs.length ≤ k) (h2 : ys.length ≤ k) : zs = ys := List.ext_getElem? fun j => by
  rcases Nat.lt_or_ge j k with hj | hj
  · exact h j hj
  · rw [List.getElem?_eq_none (by omega), List.getElem?_eq_none (by omega)]
theorem Alike.step {zs ys : List (Int × Int)} {k : Nat} (h : Alike zs ys k) (e : zs[k]? = ys[k]?) : Alike zs ys (k + 1) := fun j hj => by
  rcases Nat.lt_or_ge j k with h' | h'
  · exact h j h'
  · obtain rfl : j = k := by omega
    exact e

set_option maxHeartbeats 1000000 in
theorem l04Same_any (A : Option Addr) (n cap : Nat) (A' : Option Addr) (n' cap' : Nat) (zs ys : List (Int × Int)) (w : World) (h : PRow w A n zs) (h' : PRow w A' n' ys) :
    Calls Try.prog 42 #[.slice A n cap, .slice A' n' cap'] w fun e w' => e = .returned (.bool (sameB zs ys)) ∧ ∃ m, w' = w.drewN m := by
  have hbd := h.bd
  have hbd' := h'.bd
  have hlen := h.len
  have hlen' := h'.len
  by_cases hne : n = n'
  · subst hne
    have Hl := Lib.hid hlen
    have Hl' := Lib.hid hlen'
    have hw := Lib.hid h; clear h
    have hw' := Lib.hid h'; clear h'
    clear hlen hlen' hbd'
    go_enter Try.func42, Try.ntmps42
    go_wp2
    go_loopw [5] (fun i wr => ∃ k : Nat, k ≤ n ∧ i = .int .i64 k ∧ Hid (Alike zs ys k) ∧ ∃ m, wr = w.drewN m) (fun i _ => n - (intOf i).toNat)
    case atStart => exact ⟨0, Nat.zero_le _, rfl, fun j hj => absurd hj (by omega), 0, rfl⟩
    case round =>
      obtain ⟨k, hk, rfl, HA, m, rfl⟩ := hrel
      by_cases hlt : k < n
      · obtain ⟨bb, o, x, y, rfl, hz, _, _, _, _, hc1, hc2⟩ := hw.out.at_ hlt
        obtain ⟨bb', o', x', y', rfl, hz', _, _, _, _, hc1', hc2'⟩ := hw'.out.at_ hlt
        have HZ := Lib.hid hz
        have HZ' := Lib.hid hz'
        clear hz hz'
        have hb0 : (0 : Int) ≤ (k : Int) := by omega
        by_cases he : x = x' ∧ y = y'
        · obtain ⟨rfl, rfl⟩ := he
          go_wp2
          go_quiet (fail)
          go_wp2
          go_roundw
          case rel => exact ⟨k + 1, by omega, by go_num, HA.out.step (by rw [HZ.out, HZ'.out]), _, rfl⟩
          case measure => simp [intOf]; omega
        · have hq := fun W => eqSigT x y x' y' W
          have hf : (x == x' && y == y') = false := by
            cases h1 : x == x'
            · rfl
            · rw [Bool.true_and, beq_eq_false_iff_ne]
              exact fun h2 => he ⟨by simpa using h1, h2⟩
          have HE : Hid (¬ zs = ys) := fun e => he (by
            have h1 := HZ.out
            rw [e, HZ'.out] at h1
            injection h1 with h1
            injection h1 with h1 h2
            exact ⟨h1.symm, h2.symm⟩)
          clear he
          go_wp2
          go_quiet (fail)
          go_wp2
          go_ret
          exact ⟨ret_bool (decide_eq_false HE.out).symm, _, World.drewN_drewN _ _ _⟩
      · obtain rfl : n = k := by omega
        have HE : Hid (zs = ys) := HA.out.all (by have := Hl.out; omega) (by have := Hl'.out; omega)
        go_wp2
        go_ret
        exact ⟨ret_bool (decide_eq_true HE.out).symm, m, rfl⟩
  · rw [show sameB zs ys = false from decide_eq_false (fun e => hne (by rw [← hlen, ← hlen', e]))]
    clear hlen hlen'
    go_enter Try.func42, Try.ntmps42
    go_wp2
    go_ret
    exact ⟨rfl, 0, rfl⟩

theorem specSame_b (A : Option Addr) (n cap : Nat) (A' : Option Addr) (n' cap' : Nat) (zs ys : List (Int × Int)) (w : World) (h : PRow w A n zs) (h' : PRow w A' n' ys) :
    Calls Try.prog 19 #[.slice A n cap, .slice A' n' cap'] w fun e w' => e = .returned (.bool (sameB zs ys)) ∧ Below w.heap.size w w' := by
  go_enter Try.func19, Try.ntmps19
  go_wp2_with fail
  refine (l04Same_any A n cap A' n' cap' zs ys _ h h').mono ?_
  rintro e w1 ⟨rfl, m, rfl⟩
  go_wp2_with fail
  go_ret
  exact ⟨rfl, below_drewN _ _ _⟩
end Go.Proofs.Ytlpglibnjmjjkaa
