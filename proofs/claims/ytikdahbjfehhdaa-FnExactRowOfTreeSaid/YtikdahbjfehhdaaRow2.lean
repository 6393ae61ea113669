/-
  The rows of the Stern-Brocot tree: the reference's function; the walk of the law FnExactRowOfTree.
  No condition but those of the law's own text.
-/
import Derived.Test.YtikdahbjfehhdaaProg
import Derived.Test.YtikdahbjfehhdaaMem
import Derived.Test.YtikdahbjfehhdaaBasic
import Derived.Test.YtikdahbjfehhdaaSig
import Derived.Test.YtikdahbjfehhdaaMarks
import Derived.Test.YtikdahbjfehhdaaFrac3
import Derived.Test.YtikdahbjfehhdaaRow
import Derived.Handy
import Derived.BigQuiet
import Derived.RegionTactic
import Derived.BigRegion
import Derived.Deep.QuietTactic
import Derived.Deep.RegionHeld3
import Derived.Deep.DrawnRows
import Derived.Deep.AppendLies
namespace Go.Proofs.Ytikdahbjfehhdaa
open Go.RowKit
set_option linter.unusedVariables false
attribute [local go_sem ↓] Go.wp_at_zero Go.wp_at_succ

theorem pow_le10 {n : Nat} (h : n ≤ 10) : 2 ^ n ≤ 1024 := Nat.pow_le_pow_right (n := 2) (by omega) h
theorem wr_pow {n : Nat} (h : n ≤ 10) : wrap64 ((2 : Int) ^ n) = ((2 ^ n : Nat) : Int) := by
  have h1 := pow_le10 h
  have h2 : (2 : Int) ^ n = ((2 ^ n : Nat) : Int) := by simp
  rw [h2]
  generalize 2 ^ n = x at h1
  unfold wrap64; omega
def Bd (x : Int) (m : Nat) : Prop := 0 ≤ x ∧ x * 2 ^ m ≤ 1099511627776
theorem bd_start {n : Nat} (h : n ≤ 10) : Bd 0 n ∧ Bd 1 n ∧ Bd 1 n ∧ Bd 0 n := by
  have h1 := pow_le10 h
  have h2 : (2 : Int) ^ n = ((2 ^ n : Nat) : Int) := by simp
  unfold Bd
  rw [h2]
  omega
theorem bd4 {a b c d : Int} {m : Nat} (h : Bd a m ∧ Bd b m ∧ Bd c m ∧ Bd d m) : (0 ≤ a ∧ a ≤ 1099511627776) ∧ (0 ≤ b ∧ b ≤ 1099511627776) ∧ (0 ≤ c ∧ c ≤ 1099511627776) ∧ (0 ≤ d ∧ d ≤ 1099511627776) :=
  ⟨⟨h.1.1, bd_le h.1.1 h.1.2⟩, ⟨h.2.1.1, bd_le h.2.1.1 h.2.1.2⟩, ⟨h.2.2.1.1, bd_le h.2.2.1.1 h.2.2.1.2⟩, ⟨h.2.2.2.1, bd_le h.2.2.2.1 h.2.2.2.2⟩⟩
theorem Bd.keep {a : Int} {m : Nat} (h : Bd a (m + 1)) : Bd a m := ⟨h.1, (bd_half h.1 h.2 h.1 h.2).2.2⟩
theorem Bd.add {a b : Int} {m : Nat} (h : Bd a (m + 1)) (k : Bd b (m + 1)) : Bd (a + b) m := ⟨(bd_half h.1 h.2 k.1 k.2).1, (bd_half h.1 h.2 k.1 k.2).2.1⟩

theorem grown_put {w w' : World} {g : Nat} (h : w.grownBy w' (some g)) (k : Nat) (v : Value) : w.grownBy (w'.setCell ⟨g, k, none⟩ v) (some g) :=
  grown_trans h (by
    exact ⟨rfl, rfl, rfl, by simp, fun i hi hr => Below.heap_setCell _ _ _ i (fun e => hr (by rw [e]))⟩)
theorem cellS {w : World} {a : Addr} {u v : Value} (h : w.cell? a = some u) : (w.setCell a v).cell? a = some v := World.cell?_setCell_same _ _ _ h
theorem cellO {w : World} {a b : Addr} {u v : Value} (e : a ≠ b) (h : w.cell? b = some u) : (w.setCell a v).cell? b = some u := (World.cell?_setCell_other _ _ _ _ e).trans h
theorem bit_and {j i : Nat} (h : j < 1024) : bits .and .i64 ((j : Int) / 2 ^ i) 1 = ((j / 2 ^ i % 2 : Nat) : Int) := by
  have e1 : ((j : Int) / 2 ^ i) = ((j / 2 ^ i : Nat) : Int) := by simp
  have hx : j / 2 ^ i < 1024 := Nat.lt_of_le_of_lt (Nat.div_le_self _ _) h
  rw [e1]
  generalize j / 2 ^ i = x at hx
  have h := bits_mask .i64 63 (by decide) (fun n h0 h1 => by rw [IntKind.wrap_i64]; omega) 1 (by decide) (x : Int) (by omega) (by omega)
  have e : ((2 : Int) ^ 1 - 1) = 1 := by decide
  have e2 : ((2 : Int) ^ 1) = 2 := by decide
  rw [e, e2] at h
  rw [h]
  omega
theorem bit_t {j i : Nat} (h : j < 1024) (hb : j / 2 ^ i % 2 = 1) : (bits .and .i64 ((j : Int) / 2 ^ i) 1 == 1) = true := by rw [bit_and h, hb]; rfl
theorem bit_f {j i : Nat} (h : j < 1024) (hb : ¬ j / 2 ^ i % 2 = 1) : (bits .and .i64 ((j : Int) / 2 ^ i) 1 == 1) = false := by rw [bit_and h, show j / 2 ^ i % 2 = 0 by omega]; rfl
theorem bitW_t {k i : Nat} {p q r t : Int} (h : k / 2 ^ i % 2 = 1) : bitW k (i + 1) (p, q, r, t) = bitW k i (p + r, q + t, r, t) := by rw [bitW, if_pos h]
theorem bitW_f {k i : Nat} {p q r t : Int} (h : ¬ k / 2 ^ i % 2 = 1) : bitW k (i + 1) (p, q, r, t) = bitW k i (p, q, r + p, t + q) := by rw [bitW, if_neg h]

theorem l00In_any' (n lo hi : Int) (w : World) : Calls Try.prog 64 #[.int .i64 n, .int .i64 lo, .int .i64 hi] w fun e w' => e = .returned (.bool (inB n lo hi)) ∧ w = w' := l00In_any n lo hi w

set_option maxHeartbeats 3200000 in
theorem specRow_any (l : Int) (w : World) :
    Calls Try.prog 27 #[.int .i64 l] w fun e w' => rotR w.heap.size l e w' ∧ Below w.heap.size w w' := by
  cases hb : inB l 0 10
  · go_enter Try.func27, Try.ntmps27
    go_wp2_with fail
    refine (l00In_any' l 0 10 _).mono ?_
    rintro e w' ⟨rfl, rfl⟩
    go_wp2_with fail
    go_ret2
    exact ⟨by unfold rotR; rw [if_neg (by simp [hb])]; rfl, Below.refl _ _⟩
  · have hr : 0 ≤ l ∧ l ≤ 10 := inB_iff.mp hb
    obtain ⟨n, rfl⟩ : ∃ n : Nat, l = n := ⟨l.toNat, by omega⟩
    obtain ⟨i0, hi, hz0, hz1, hz2⟩ := info_parts info_frac
    have hn10 : n ≤ 10 := by omega
    go_enter Try.func27, Try.ntmps27
    go_wp2_with fail
    refine (l00In_any' n 0 10 _).mono ?_
    rintro e w' ⟨rfl, rfl⟩
    rw [hb]
    go_wp2_with fail
    have hown0 : (w.alloc (.cells #[] 26)).ownsRow w.heap.size 26 2 (.slice (some ⟨w.heap.size, 0, none⟩) 0 0) 0 (prs ((List.range 0).map fun k => bitF k n (0, 1, 1, 0))) := by
      exact World.ownsRow_made w #[] 0 (Nat.le_refl _) (by decide) rfl
    have HO := Lib.hid hown0
    clear hown0
    go_loopw [4, 5] (fun o k wr => ∃ (j : Nat) (A : Option Addr) (c : Nat), j ≤ 2 ^ n ∧ k = .int .i64 j ∧ o = .slice A j c ∧ wr.ownsRow w.heap.size 26 2 (.slice A j c) j (prs ((List.range j).map fun k => bitF k n (0, 1, 1, 0))) ∧ Below w.heap.size w wr) (fun _ k _ => 2 ^ n - (intOf k).toNat)
    case atStart => exact ⟨0, _, _, Nat.zero_le _, rfl, rfl, HO.out, (Below.refl _ _).alloc (Nat.le_refl _) _⟩
    case round =>
      rename World => wo
      obtain ⟨j, A, c, hj, rfl, rfl, hown, hB⟩ := hrel
      have HJ := Lib.hid hj
      have HN := Lib.hid hown
      have hfar := hown.lt
      have HF := Lib.hid hfar
      have hbase : w.heap.size ≤ wo.heap.size := hB.size
      clear HO hown hfar hj
      by_cases hlt : j < 2 ^ n
      · have hT : (j : Int) < wrap64 (2 ^ n) := by rw [wr_pow hn10]; omega
        have hj10 : j < 1024 := by have := pow_le10 hn10; omega
        clear hlt
        go_wp2_with fail
        go_loopw [7] (fun i wi => ∃ (m : Nat) (P Q R T : Int), m ≤ n ∧ i = .int .i64 ((m : Int) - 1) ∧ wi.cell? ⟨wo.heap.size, 0, none⟩ = some (.int .i64 P) ∧ wi.cell? ⟨wo.heap.size, 1, none⟩ = some (.int .i64 Q) ∧ wi.cell? ⟨wo.heap.size, 2, none⟩ = some (.int .i64 R) ∧ wi.cell? ⟨wo.heap.size, 3, none⟩ = some (.int .i64 T) ∧
          wi.frozen? ⟨wo.heap.size, 0, none⟩ = false ∧ wi.frozen? ⟨wo.heap.size, 1, none⟩ = false ∧ wi.frozen? ⟨wo.heap.size, 2, none⟩ = false ∧ wi.frozen? ⟨wo.heap.size, 3, none⟩ = false ∧ Hid (bitW j m (P, Q, R, T) = bitW j n (0, 1, 1, 0)) ∧ Hid (Bd P m ∧ Bd Q m ∧ Bd R m ∧ Bd T m) ∧ (wo.alloc (.cells #[.int .i64 0, .int .i64 1, .int .i64 1, .int .i64 0] 72)).grownBy wi (some wo.heap.size)) (fun i _ => (intOf i + 1).toNat)
        case atStart => exact ⟨n, 0, 1, 1, 0, Nat.le_refl _, rfl, by simp, by simp, by simp, by simp, by simp, by simp, by simp, by simp, rfl, bd_start hn10, World.grownBy.refl _ _⟩
        case round =>
          rename World => wi
          obtain ⟨m, P, Q, R, T, hm, rfl, c0, c1, c2, c3, f0, f1, f2, f3, hW, hD, hG⟩ := hrel
          have HG := Lib.hid hG
          have hsz : wo.heap.size < wi.heap.size := Nat.lt_of_lt_of_le (by simp) hG.size
          clear hG
          obtain ⟨b0, b1, b2, b3⟩ := bd4 hD.out
          cases m with
          | succ i =>
            have hi0 : (0 : Int) ≤ (i : Int) := by omega
            by_cases hbit : j / 2 ^ i % 2 = 1
            · have hBit := bit_t hj10 hbit
              have HI := Lib.hid hbit
              clear hbit
              go_wp2_with fail
              go_roundw
              case rel => exact ⟨i, P + R, Q + T, R, T, by omega, rfl, cellO (by simp) (cellS c0), cellS (cellO (by simp) c1), cellO (by simp) (cellO (by simp) c2), cellO (by simp) (cellO (by simp) c3), (World.frozen?_setCell ..).trans ((World.frozen?_setCell ..).trans f0), (World.frozen?_setCell ..).trans ((World.frozen?_setCell ..).trans f1), (World.frozen?_setCell ..).trans ((World.frozen?_setCell ..).trans f2), (World.frozen?_setCell ..).trans ((World.frozen?_setCell ..).trans f3), (bitW_t HI.out).symm.trans hW.out, ⟨hD.out.1.add hD.out.2.2.1, hD.out.2.1.add hD.out.2.2.2, hD.out.2.2.1.keep, hD.out.2.2.2.keep⟩, grown_put (grown_put HG.out _ _) _ _⟩
              case measure => simp [intOf] <;> omega
            · have hBit := bit_f hj10 hbit
              have HI := Lib.hid hbit
              clear hbit
              go_wp2_with fail
              go_roundw
              case rel => exact ⟨i, P, Q, R + P, T + Q, by omega, rfl, cellO (by simp) (cellO (by simp) c0), cellO (by simp) (cellO (by simp) c1), cellO (by simp) (cellS c2), cellS (cellO (by simp) c3), (World.frozen?_setCell ..).trans ((World.frozen?_setCell ..).trans f0), (World.frozen?_setCell ..).trans ((World.frozen?_setCell ..).trans f1), (World.frozen?_setCell ..).trans ((World.frozen?_setCell ..).trans f2), (World.frozen?_setCell ..).trans ((World.frozen?_setCell ..).trans f3), (bitW_f HI.out).symm.trans hW.out, ⟨hD.out.1.keep, hD.out.2.1.keep, hD.out.2.2.1.add hD.out.1, hD.out.2.2.2.add hD.out.2.1⟩, grown_put (grown_put HG.out _ _) _ _⟩
              case measure => simp [intOf] <;> omega
          | zero =>
            have hne : (Value.slice A j c).ownBlock = none ∨ (Value.slice A j c).ownBlock ≠ some wo.heap.size := Or.inr (fun e => by have := HF.out _ e; omega)
            have HK := Lib.hid ((HN.out.alloc (.cells #[.int .i64 0, .int .i64 1, .int .i64 1, .int .i64 0] 72)).kept HG.out hne)
            have hbI : Below w.heap.size w wi := (hB.alloc hbase _).grown HG.out (by simp; omega) (fun k hk => by cases hk; exact hbase)
            have HE : Hid ((P + R, Q + T) = bitF j n (0, 1, 1, 0)) := by
              have := hW.out
              unfold bitF
              rw [← this]; rfl
            clear hne hr hm
            go_wp2_with (first | (at_builtin; refine wpList_append_lies _ rfl (.tmp 56) (.tmp 68) 41 rfl w.heap.size 26 i0 (.agg #[.int .i64 0, .int .i64 0]) 2 16 Try.underlying41 hi hz0 hz1 hz2 rfl (by decide) _ j (prs ((List.range j).map fun k => bitF k n (0, 1, 1, 0))) (by rfl) (HK.out.alloc _) ⟨wi.heap.size, 0, none⟩ 1 1 [.int .i64 (P + R), .int .i64 (Q + T)] (by rfl) rfl ?cells (by simp [Value.oneCell']) (by decide) (by show j + 1 ≤ 9223372036854775807; omega) (by omega) (by simp; omega) (wi.heap.size + 1) (by simp) ?_; rotate_left; intro g cap1 w1 hown1 hgrow hat hlt1))
            case cells =>
              rintro (_ | _ | j) u hu
              · simpa [Addr.add] using hu
              · simpa [Addr.add] using hu
              · simp at hu
            go_roundw
            case rel =>
              refine ⟨j + 1, _, _, ?_, by go_num, rfl, ?_, (hbI.alloc (by omega) _).grown hgrow (by simp; omega) (fun k hk => (HF.out k hk).1)⟩
              · rw [wr_pow hn10] at hT
                omega
              · rw [List.range_succ, List.map_append, prs_append]
                simp only [List.map_cons, List.map_nil]
                rw [← HE.out]
                exact hown1
            case measure =>
              rw [wr_pow hn10] at hT
              simp [intOf]; omega
      · have hT : ¬ (j : Int) < wrap64 (2 ^ n) := by rw [wr_pow hn10]; omega
        have hje := Lib.hid (show j = 2 ^ n by have := HJ.out; omega)
        clear hlt
        go_wp2_with fail
        go_ret2
        refine ⟨?_, hB⟩
        unfold rotR
        rw [if_pos hb, row_bits]
        refine ⟨A, c, ?_, ?_⟩
        · rw [hje.out]; rfl
        · have := HN.out
          rw [hje.out] at this
          exact this
end Go.Proofs.Ytikdahbjfehhdaa
