/-
  The numbers of terms by all kinds: contracts of the exported functions; the walk of the law FnExactSignedLengths.
  No condition but those of the law's own text.
-/
import Derived.Test.YtjkonkoiofhefaaProg
import Derived.Test.YtjkonkoiofhefaaMem
import Derived.Test.YtjkonkoiofhefaaBasic
import Derived.Test.YtjkonkoiofhefaaInts
import Derived.Test.YtjkonkoiofhefaaFrac
import Derived.Test.YtjkonkoiofhefaaMarks
import Derived.Test.YtjkonkoiofhefaaOwn
import Derived.Test.YtjkonkoiofhefaaKnd
import Derived.Handy
import Derived.BigQuiet
import Derived.Deep.QuietTactic
import Derived.Deep.AppendLies
namespace Go.Proofs.Ytjkonkoiofhefaa
open Go.RowKit
set_option linter.unusedVariables false
set_option linter.unusedSimpArgs false
attribute [local go_sem ↓] Go.wp_at_zero Go.wp_at_succ

/-- The number of terms by a kind, or -1. -/
def lenK (p q kd : Int) : Int := if exsC p q kd = 0 then ((exsL p q kd).length : Int) else -1
def lenP (p q : Int) (j : Nat) : List Int := (List.range j).map fun i : Nat => lenK p q ((i : Int) + 1)
theorem lenP_succ (p q : Int) (j : Nat) : lenP p q (j + 1) = lenP p q j ++ [lenK p q ((j : Int) + 1)] := by unfold lenP; rw [List.range_succ, List.map_append]; rfl
theorem lenP_len (p q : Int) (j : Nat) : (lenP p q j).length = j := by unfold lenP; simp
def slnL (p q : Int) : List Int := if vfB p q = true then lenP p q 4 else []
def slnC (p q : Int) : Int := if vfB p q = true then 0 else 1
theorem lenK_bd (p q kd : Int) : -1 ≤ lenK p q kd ∧ lenK p q kd ≤ 60 := by
  unfold lenK
  have := exsL_len p q kd
  split <;> omega
theorem slnL_len (p q : Int) : (slnL p q).length ≤ 4 := by
  unfold slnL
  split
  · rw [lenP_len]; exact Nat.le_refl _
  · simp
theorem slnL_rng (p q : Int) : ∀ z ∈ slnL p q, Rng z := by
  intro z hz
  unfold slnL at hz
  split at hz
  · unfold lenP at hz
    obtain ⟨i, _, rfl⟩ := List.mem_map.1 hz
    have := lenK_bd p q ((i : Int) + 1)
    unfold Rng; omega
  · cases hz

set_option maxRecDepth 100000 in
set_option maxHeartbeats 3200000 in
theorem implSln_any (p q : Int) (w : World) : Calls Try.prog 37 #[.agg #[.int .i64 p, .int .i64 q]] w fun e w' => ResI w.heap.size (slnL p q) (slnC p q) e w' ∧ Below w.heap.size w w' := by
  cases hv : vfB p q
  · rw [show slnL p q = [] from if_neg (by simp [hv]), show slnC p q = 1 from if_neg (by simp [hv])]
    go_enter Try.func37, Try.ntmps37
    go_wp2_with fail
    refine (validFraction_any p q _).mono ?_
    rintro e w1 ⟨rfl, hb1⟩
    obtain ⟨hc1, hf1, hs1⟩ := keepc hb1
    have hB1 : Below w.heap.size w w1 := Below.trans (by go_grown) (hb1.mono (by first | exact Nat.le_refl _ | (simp only [World.size_alloc]; omega)))
    try simp only [World.size_alloc] at hs1
    have hl1_0 : w.heap.size < w1.heap.size := by omega
    go_wp2_with fail
    go_ret2
    exact ⟨⟨none, 0, rfl, World.ownsRow_nil ..⟩, hB1⟩
  · rw [show slnL p q = lenP p q 4 from if_pos hv, show slnC p q = 0 from if_pos hv]
    obtain ⟨i0, hi, hz0, hz1, hz2⟩ := info_parts info_i64
    go_enter Try.func37, Try.ntmps37
    go_wp2_with fail
    refine (validFraction_any p q _).mono ?_
    rintro e w1 ⟨rfl, hb1⟩
    obtain ⟨hc1, hf1, hs1⟩ := keepc hb1
    have hB1 : Below w.heap.size w w1 := Below.trans (by go_grown) (hb1.mono (by first | exact Nat.le_refl _ | (simp only [World.size_alloc]; omega)))
    try simp only [World.size_alloc] at hs1
    have hl1_0 : w.heap.size < w1.heap.size := by omega
    rw [hv]
    have c0 : w1.cell? ⟨w.heap.size, 0, none⟩ = some (.int .i64 p) := (hb1.cell (p := ⟨w.heap.size, 0, none⟩) (by simp)).trans (newcellA rfl rfl)
    have c1 : w1.cell? ⟨w.heap.size, 1, none⟩ = some (.int .i64 q) := (hb1.cell (p := ⟨w.heap.size, 1, none⟩) (by simp)).trans (newcellA rfl rfl)
    clear hc1 hf1 hb1
    go_wp2_with fail
    go_loopw [4, 5] (fun l u wr => ∃ (j : Nat) (A : Option Addr) (c : Nat), j ≤ 4 ∧ u = .int .i64 ((j : Int) + 1) ∧ l = .slice A j c ∧ wr.cell? ⟨w.heap.size, 0, none⟩ = some (.int .i64 p) ∧ wr.cell? ⟨w.heap.size, 1, none⟩ = some (.int .i64 q) ∧
      wr.ownsRow (w.heap.size + 1) 2 1 (.slice A j c) j ((lenP p q j).map (Value.int .i64)) ∧ Below w.heap.size w wr) (fun _ u _ => (5 - intOf u).toNat)
    case atStart => exact ⟨0, none, 0, by omega, rfl, rfl, c0, c1, World.ownsRow_nil .., hB1⟩
    case round =>
      obtain ⟨j, A, c, hj, rfl, rfl, c0, c1, hown, hB⟩ := hrel
      have HO := Lib.hid hown
      have HF := Lib.hid hown.lt
      have hbase : w.heap.size ≤ wr.heap.size := hB.size
      have hlw : w.heap.size < wr.heap.size := World.block_lt_of_cell? wr ⟨w.heap.size, 0, none⟩ c0
      clear hown
      by_cases hlt : j < 4
      · have hle : decide ((j : Int) + 1 ≤ 4) = true := decide_eq_true (by omega)
        have HE := Lib.hid (fun w => implExs_any p q ((j : Int) + 1) w)
        have hlen := exsL_len p q ((j : Int) + 1)
        by_cases hk : exsC p q ((j : Int) + 1) = 0
        · have HK := Lib.hid (show lenK p q ((j : Int) + 1) = ((exsL p q ((j : Int) + 1)).length : Int) from if_pos hk)
          rw [hk] at HE
          unfold ResS at HE
          generalize exsL p q ((j : Int) + 1) = zs at *
          obtain ⟨N, hN⟩ : ∃ N, N = zs.length := ⟨_, rfl⟩
          rw [← hN] at HE hlen HK
          clear hk hN
          go_wp2_with fail
          refine (HE.out _).mono ?_
          rintro e w2 ⟨⟨B, c2, rfl, ho2⟩, hb2⟩
          have hB2 : Below w.heap.size w w2 := hB.trans (hb2.mono hbase)
          have hbase2 : w.heap.size ≤ w2.heap.size := hB2.size
          have hlw2 : w.heap.size < w2.heap.size := Nat.lt_of_lt_of_le hlw hb2.size
          have d0 := (hb2.cell (p := ⟨w.heap.size, 0, none⟩) hlw).trans c0
          have d1 := (hb2.cell (p := ⟨w.heap.size, 1, none⟩) hlw).trans c1
          have HO2 := Lib.hid (own_below HO.out hb2)
          clear ho2 hb2 HO hB
          go_wp2_with (first | (go_at_call 81; go_in) | (at_builtin; refine wpList_append_lies _ rfl (.tmp 26) (.tmp 28) 37 rfl (w.heap.size + 1) 2 i0 (.int .i64 0) 1 8 Try.underlying37 hi hz0 hz1 hz2 rfl (by decide) _ j ((lenP p q j).map (Value.int .i64)) (by rfl) (HO2.out.alloc _) ⟨w2.heap.size, 0, none⟩ 1 1 [.int .i64 (N : Int)] (by rfl) rfl ?cells (by simp [Value.oneCell']) (by decide) (by show j + 1 ≤ 9223372036854775807; omega) (by omega) (by simp; omega) (w2.heap.size + 1) (by simp) ?_; rotate_left; intro g cap1 wn hown1 hgrow hat hlt1))
          case cells => exact fun j u hu => newcell (by simp) hu
          rw [← List.map_singleton (f := Value.int .i64), ← List.map_append] at hown1
          go_roundw
          case rel =>
            refine ⟨j + 1, _, _, by omega, by go_num, rfl, ?_, ?_, by rw [lenP_succ, HK.out]; exact hown1, (hB2.alloc hbase2 _).grown hgrow (by simp; omega) (fun k hk => Nat.le_of_succ_le (HF.out k hk).1)⟩
            · exact hgrow.cell ((World.cell?_alloc_lt _ _ _ hlw2).trans d0) (fun e => by have := (HF.out _ e.symm).1; simp at this; omega)
            · exact hgrow.cell ((World.cell?_alloc_lt _ _ _ hlw2).trans d1) (fun e => by have := (HF.out _ e.symm).1; simp at this; omega)
          case measure => simp [intOf]; omega
        · have HK := Lib.hid (show lenK p q ((j : Int) + 1) = -1 from if_neg hk)
          have hne : (exsC p q ((j : Int) + 1) != 0) = true := by rw [bne_iff_ne]; exact hk
          generalize exsC p q ((j : Int) + 1) = k at *
          unfold ResS at HE
          generalize exsL p q ((j : Int) + 1) = zs at *
          obtain ⟨N, hN⟩ : ∃ N, N = zs.length := ⟨_, rfl⟩
          rw [← hN] at HE hlen
          clear hk hN
          go_wp2_with fail
          refine (HE.out _).mono ?_
          rintro e w2 ⟨⟨B, c2, rfl, ho2⟩, hb2⟩
          have hB2 : Below w.heap.size w w2 := hB.trans (hb2.mono hbase)
          have hbase2 : w.heap.size ≤ w2.heap.size := hB2.size
          have hlw2 : w.heap.size < w2.heap.size := Nat.lt_of_lt_of_le hlw hb2.size
          have d0 := (hb2.cell (p := ⟨w.heap.size, 0, none⟩) hlw).trans c0
          have d1 := (hb2.cell (p := ⟨w.heap.size, 1, none⟩) hlw).trans c1
          have HO2 := Lib.hid (own_below HO.out hb2)
          clear ho2 hb2 HO hB
          go_wp2_with (first | (go_at_call 81; go_in) | (at_builtin; refine wpList_append_lies _ rfl (.tmp 26) (.tmp 28) 37 rfl (w.heap.size + 1) 2 i0 (.int .i64 0) 1 8 Try.underlying37 hi hz0 hz1 hz2 rfl (by decide) _ j ((lenP p q j).map (Value.int .i64)) (by rfl) (HO2.out.alloc _) ⟨w2.heap.size, 0, none⟩ 1 1 [.int .i64 (-1)] (by rfl) rfl ?cells (by simp [Value.oneCell']) (by decide) (by show j + 1 ≤ 9223372036854775807; omega) (by omega) (by simp; omega) (w2.heap.size + 1) (by simp) ?_; rotate_left; intro g cap1 wn hown1 hgrow hat hlt1))
          case cells => exact fun j u hu => newcell (by simp) hu
          rw [← List.map_singleton (f := Value.int .i64), ← List.map_append] at hown1
          go_roundw
          case rel =>
            refine ⟨j + 1, _, _, by omega, by go_num, rfl, ?_, ?_, by rw [lenP_succ, HK.out]; exact hown1, (hB2.alloc hbase2 _).grown hgrow (by simp; omega) (fun k hk => Nat.le_of_succ_le (HF.out k hk).1)⟩
            · exact hgrow.cell ((World.cell?_alloc_lt _ _ _ hlw2).trans d0) (fun e => by have := (HF.out _ e.symm).1; simp at this; omega)
            · exact hgrow.cell ((World.cell?_alloc_lt _ _ _ hlw2).trans d1) (fun e => by have := (HF.out _ e.symm).1; simp at this; omega)
          case measure => simp [intOf]; omega
      · obtain rfl : j = 4 := by omega
        go_wp2_with fail
        go_ret2
        unfold ResI
        rw [lenP_len]
        exact ⟨⟨_, _, rfl, own_base HO.out (by omega)⟩, hB⟩
set_option maxRecDepth 100000 in
set_option maxHeartbeats 3200000 in
theorem specSln_any (p q : Int) (w : World) : Calls Try.prog 36 #[.agg #[.int .i64 p, .int .i64 q]] w fun e w' => ResI w.heap.size (slnL p q) (slnC p q) e w' ∧ Below w.heap.size w w' := by
  cases hv : vfB p q
  · rw [show slnL p q = [] from if_neg (by simp [hv]), show slnC p q = 1 from if_neg (by simp [hv])]
    go_enter Try.func36, Try.ntmps36
    go_wp2_with fail
    refine (l02Ok_any p q _).mono ?_
    rintro e w1 ⟨rfl, hb1⟩
    obtain ⟨hc1, hf1, hs1⟩ := keepc hb1
    have hB1 : Below w.heap.size w w1 := Below.trans (by go_grown) (hb1.mono (by first | exact Nat.le_refl _ | (simp only [World.size_alloc]; omega)))
    try simp only [World.size_alloc] at hs1
    have hl1_0 : w.heap.size < w1.heap.size := by omega
    go_wp2_with fail
    go_ret2
    exact ⟨⟨none, 0, rfl, World.ownsRow_nil ..⟩, hB1⟩
  · rw [show slnL p q = lenP p q 4 from if_pos hv, show slnC p q = 0 from if_pos hv]
    obtain ⟨i0, hi, hz0, hz1, hz2⟩ := info_parts info_i64
    go_enter Try.func36, Try.ntmps36
    go_wp2_with fail
    refine (l02Ok_any p q _).mono ?_
    rintro e w1 ⟨rfl, hb1⟩
    obtain ⟨hc1, hf1, hs1⟩ := keepc hb1
    have hB1 : Below w.heap.size w w1 := Below.trans (by go_grown) (hb1.mono (by first | exact Nat.le_refl _ | (simp only [World.size_alloc]; omega)))
    try simp only [World.size_alloc] at hs1
    have hl1_0 : w.heap.size < w1.heap.size := by omega
    rw [hv]
    have c0 : w1.cell? ⟨w.heap.size, 0, none⟩ = some (.int .i64 p) := (hb1.cell (p := ⟨w.heap.size, 0, none⟩) (by simp)).trans (newcellA rfl rfl)
    have c1 : w1.cell? ⟨w.heap.size, 1, none⟩ = some (.int .i64 q) := (hb1.cell (p := ⟨w.heap.size, 1, none⟩) (by simp)).trans (newcellA rfl rfl)
    clear hc1 hf1 hb1
    go_wp2_with fail
    go_loopw [4, 5] (fun l u wr => ∃ (j : Nat) (A : Option Addr) (c : Nat), j ≤ 4 ∧ u = .int .i64 ((j : Int) + 1) ∧ l = .slice A j c ∧ wr.cell? ⟨w.heap.size, 0, none⟩ = some (.int .i64 p) ∧ wr.cell? ⟨w.heap.size, 1, none⟩ = some (.int .i64 q) ∧
      wr.ownsRow (w.heap.size + 1) 2 1 (.slice A j c) j ((lenP p q j).map (Value.int .i64)) ∧ Below w.heap.size w wr) (fun _ u _ => (5 - intOf u).toNat)
    case atStart => refine ⟨0, _, _, by omega, rfl, rfl, (World.cell?_alloc_lt _ _ _ hl1_0).trans c0, (World.cell?_alloc_lt _ _ _ hl1_0).trans c1, World.ownsRow_made w1 #[] 0 (by omega) (by decide) rfl, hB1.alloc (by omega) _⟩
    case round =>
      obtain ⟨j, A, c, hj, rfl, rfl, c0, c1, hown, hB⟩ := hrel
      have HO := Lib.hid hown
      have HF := Lib.hid hown.lt
      have hbase : w.heap.size ≤ wr.heap.size := hB.size
      have hlw : w.heap.size < wr.heap.size := World.block_lt_of_cell? wr ⟨w.heap.size, 0, none⟩ c0
      clear hown
      by_cases hlt : j < 4
      · have hle : decide ((j : Int) + 1 ≤ 4) = true := decide_eq_true (by omega)
        have HE := Lib.hid (fun w => specExs_any p q ((j : Int) + 1) w)
        have hlen := exsL_len p q ((j : Int) + 1)
        by_cases hk : exsC p q ((j : Int) + 1) = 0
        · have HK := Lib.hid (show lenK p q ((j : Int) + 1) = ((exsL p q ((j : Int) + 1)).length : Int) from if_pos hk)
          rw [hk] at HE
          unfold ResS at HE
          generalize exsL p q ((j : Int) + 1) = zs at *
          obtain ⟨N, hN⟩ : ∃ N, N = zs.length := ⟨_, rfl⟩
          rw [← hN] at HE hlen HK
          clear hk hN
          go_wp2_with fail
          refine (HE.out _).mono ?_
          rintro e w2 ⟨⟨B, c2, rfl, ho2⟩, hb2⟩
          have hB2 : Below w.heap.size w w2 := hB.trans (hb2.mono hbase)
          have hbase2 : w.heap.size ≤ w2.heap.size := hB2.size
          have hlw2 : w.heap.size < w2.heap.size := Nat.lt_of_lt_of_le hlw hb2.size
          have d0 := (hb2.cell (p := ⟨w.heap.size, 0, none⟩) hlw).trans c0
          have d1 := (hb2.cell (p := ⟨w.heap.size, 1, none⟩) hlw).trans c1
          have HO2 := Lib.hid (own_below HO.out hb2)
          clear ho2 hb2 HO hB
          go_wp2_with (first | (at_builtin; refine wpList_append_lies _ rfl (.tmp 27) (.tmp 30) 37 rfl (w.heap.size + 1) 2 i0 (.int .i64 0) 1 8 Try.underlying37 hi hz0 hz1 hz2 rfl (by decide) _ j ((lenP p q j).map (Value.int .i64)) (by rfl) (HO2.out.alloc _) ⟨w2.heap.size, 0, none⟩ 1 1 [.int .i64 (N : Int)] (by rfl) rfl ?cells (by simp [Value.oneCell']) (by decide) (by show j + 1 ≤ 9223372036854775807; omega) (by omega) (by simp; omega) (w2.heap.size + 1) (by simp) ?_; rotate_left; intro g cap1 wn hown1 hgrow hat hlt1))
          case cells => exact fun j u hu => newcell (by simp) hu
          rw [← List.map_singleton (f := Value.int .i64), ← List.map_append] at hown1
          go_roundw
          case rel =>
            refine ⟨j + 1, _, _, by omega, by go_num, rfl, ?_, ?_, by rw [lenP_succ, HK.out]; exact hown1, (hB2.alloc hbase2 _).grown hgrow (by simp; omega) (fun k hk => Nat.le_of_succ_le (HF.out k hk).1)⟩
            · exact hgrow.cell ((World.cell?_alloc_lt _ _ _ hlw2).trans d0) (fun e => by have := (HF.out _ e.symm).1; simp at this; omega)
            · exact hgrow.cell ((World.cell?_alloc_lt _ _ _ hlw2).trans d1) (fun e => by have := (HF.out _ e.symm).1; simp at this; omega)
          case measure => simp [intOf]; omega
        · have HK := Lib.hid (show lenK p q ((j : Int) + 1) = -1 from if_neg hk)
          have hne : (exsC p q ((j : Int) + 1) != 0) = true := by rw [bne_iff_ne]; exact hk
          generalize exsC p q ((j : Int) + 1) = k at *
          unfold ResS at HE
          generalize exsL p q ((j : Int) + 1) = zs at *
          obtain ⟨N, hN⟩ : ∃ N, N = zs.length := ⟨_, rfl⟩
          rw [← hN] at HE hlen
          clear hk hN
          go_wp2_with fail
          refine (HE.out _).mono ?_
          rintro e w2 ⟨⟨B, c2, rfl, ho2⟩, hb2⟩
          have hB2 : Below w.heap.size w w2 := hB.trans (hb2.mono hbase)
          have hbase2 : w.heap.size ≤ w2.heap.size := hB2.size
          have hlw2 : w.heap.size < w2.heap.size := Nat.lt_of_lt_of_le hlw hb2.size
          have d0 := (hb2.cell (p := ⟨w.heap.size, 0, none⟩) hlw).trans c0
          have d1 := (hb2.cell (p := ⟨w.heap.size, 1, none⟩) hlw).trans c1
          have HO2 := Lib.hid (own_below HO.out hb2)
          clear ho2 hb2 HO hB
          go_wp2_with (first | (at_builtin; refine wpList_append_lies _ rfl (.tmp 24) (.tmp 25) 37 rfl (w.heap.size + 1) 2 i0 (.int .i64 0) 1 8 Try.underlying37 hi hz0 hz1 hz2 rfl (by decide) _ j ((lenP p q j).map (Value.int .i64)) (by rfl) (HO2.out.alloc _) ⟨w2.heap.size, 0, none⟩ 1 1 [.int .i64 (-1)] (by rfl) rfl ?cells (by simp [Value.oneCell']) (by decide) (by show j + 1 ≤ 9223372036854775807; omega) (by omega) (by simp; omega) (w2.heap.size + 1) (by simp) ?_; rotate_left; intro g cap1 wn hown1 hgrow hat hlt1))
          case cells => exact fun j u hu => newcell (by simp) hu
          rw [← List.map_singleton (f := Value.int .i64), ← List.map_append] at hown1
          go_roundw
          case rel =>
            refine ⟨j + 1, _, _, by omega, by go_num, rfl, ?_, ?_, by rw [lenP_succ, HK.out]; exact hown1, (hB2.alloc hbase2 _).grown hgrow (by simp; omega) (fun k hk => Nat.le_of_succ_le (HF.out k hk).1)⟩
            · exact hgrow.cell ((World.cell?_alloc_lt _ _ _ hlw2).trans d0) (fun e => by have := (HF.out _ e.symm).1; simp at this; omega)
            · exact hgrow.cell ((World.cell?_alloc_lt _ _ _ hlw2).trans d1) (fun e => by have := (HF.out _ e.symm).1; simp at this; omega)
          case measure => simp [intOf]; omega
      · obtain rfl : j = 4 := by omega
        go_wp2_with fail
        go_ret2
        unfold ResI
        rw [lenP_len]
        exact ⟨⟨_, _, rfl, own_base HO.out (by omega)⟩, hB⟩
set_option maxHeartbeats 3200000 in
theorem fnExactSignedLengths_walk (p q : Int) (_ : -9223372036854775808 ≤ p) (_ : p ≤ 9223372036854775807) (_ : -9223372036854775808 ≤ q) (_ : q ≤ 9223372036854775807) (w : World) :
    Calls Try.prog 8 #[.agg #[.int .i64 p, .int .i64 q]] w fun e w' => e = .returned (.bool true) ∧ Below w.heap.size w w' := by
  obtain ⟨N, zs0, k, hN, hrg, HS, HI⟩ : ∃ (N : Nat) (zs0 : List Int) (k : Int), N ≤ 4 ∧ (∀ z ∈ zs0, Rng z) ∧ Hid (∀ w : World, Calls Try.prog 36 #[.agg #[.int .i64 p, .int .i64 q]] w fun e w' => (∃ B c, e = .returned (.tuple #[.slice B N c, .int .i64 k]) ∧ w'.ownsRow w.heap.size 2 1 (.slice B N c) N (zs0.map (Value.int .i64))) ∧ Below w.heap.size w w') ∧ Hid (∀ w : World, Calls Try.prog 37 #[.agg #[.int .i64 p, .int .i64 q]] w fun e w' => (∃ B c, e = .returned (.tuple #[.slice B N c, .int .i64 k]) ∧ w'.ownsRow w.heap.size 2 1 (.slice B N c) N (zs0.map (Value.int .i64))) ∧ Below w.heap.size w w') :=
    ⟨(slnL p q).length, slnL p q, slnC p q, (slnL_len p q), (slnL_rng p q), fun w => specSln_any p q w, fun w => implSln_any p q w⟩
  have HR := Lib.hid hrg
  clear hrg
  go_enter Try.func8, Try.ntmps8
  go_wp2_with fail
  refine (toFraction_any p q _).mono ?_
  rintro e w1 ⟨rfl, hd1⟩
  obtain ⟨hc1, hf1, _⟩ := keepc hd1
  have hb1 : Below w.heap.size w w1 := Below.trans (by go_grown) (hd1.mono (by first | exact Nat.le_refl _ | (simp only [World.size_alloc]; omega)))
  have hs1 : w.heap.size + 1 ≤ w1.heap.size := by have := hd1.size; simp only [World.size_alloc] at this; omega
  have hl1_0 : w.heap.size < w1.heap.size := by omega
  clear hd1
  go_wp2_with fail
  refine (HS.out _).mono ?_
  rintro e w2 ⟨⟨A0, c0, rfl, oW⟩, hd2⟩
  obtain ⟨hc2, hf2, _⟩ := keepc hd2
  have hb2 : Below w.heap.size w w2 := hb1.trans (hd2.mono hb1.size)
  have hs2 : w1.heap.size ≤ w2.heap.size := hd2.size
  have hl2_0 : w.heap.size < w2.heap.size := by omega
  clear hd2 hb1
  have W_2 := Lib.hid oW
  have W_b := Lib.hid oW
  clear oW
  go_wp2_with fail
  refine (toFraction_any p q _).mono ?_
  rintro e w3 ⟨rfl, hd3⟩
  obtain ⟨hc3, hf3, _⟩ := keepc hd3
  have hb3 : Below w.heap.size w w3 := hb2.trans (hd3.mono hb2.size)
  have hs3 : w2.heap.size ≤ w3.heap.size := hd3.size
  have hl3_0 : w.heap.size < w3.heap.size := by omega
  have W_3 := Lib.hid (own_below W_2.out hd3)
  clear hd3 hb2
  go_wp2_with fail
  refine (HI.out _).mono ?_
  rintro e w4 ⟨⟨A1, c1, rfl, oG⟩, hd4⟩
  obtain ⟨hc4, hf4, _⟩ := keepc hd4
  have hb4 : Below w.heap.size w w4 := hb3.trans (hd4.mono hb3.size)
  have hs4 : w3.heap.size ≤ w4.heap.size := hd4.size
  have hl4_0 : w.heap.size < w4.heap.size := by omega
  have W_4 := Lib.hid (own_below W_3.out hd4)
  clear hd4 hb3
  have G_4 := Lib.hid oG
  have G_b := Lib.hid oG
  clear oG
  go_wp2_with fail
  refine (eqInt64S_same A1 N c1 A0 c0 zs0 _ (IRow.of_own G_4.out (by omega) HR.out) (IRow.of_own W_4.out (by omega) HR.out)).mono ?_
  rintro e w5 ⟨rfl, hd5⟩
  obtain ⟨hc5, hf5, _⟩ := keepc hd5
  have hb5 : Below w.heap.size w w5 := hb4.trans (hd5.mono hb4.size)
  have hs5 : w4.heap.size ≤ w5.heap.size := hd5.size
  have hl5_0 : w.heap.size < w5.heap.size := by omega
  have W_5 := Lib.hid (own_below W_4.out hd5)
  have G_5 := Lib.hid (own_below G_4.out hd5)
  clear hd5 hb4
  go_wp2_with fail
  refine (markI_any A1 N c1 _ (zs0.map (Value.int .i64)) 1 _ G_5.out (by omega) (by omega) (by omega)).mono ?_
  rintro e w6 ⟨rfl, ho6, hg6⟩
  have hc6_0_0 : w6.cell? ⟨w.heap.size, 0, none⟩ = w5.cell? ⟨w.heap.size, 0, none⟩ := hg6.cell_far _ (by simp; omega) (by intro e; have := (G_b.out.lt _ e.symm).1; simp at this; omega)
  have hc6_0_1 : w6.cell? ⟨w.heap.size, 1, none⟩ = w5.cell? ⟨w.heap.size, 1, none⟩ := hg6.cell_far _ (by simp; omega) (by intro e; have := (G_b.out.lt _ e.symm).1; simp at this; omega)
  have hb6 : Below w.heap.size w w6 := hb5.grown hg6 hb5.size (fun k hk => Nat.le_trans (by omega) (G_b.out.lt k hk).1)
  have hs6 : w5.heap.size ≤ w6.heap.size := hg6.size
  have hl6_0 : w.heap.size < w6.heap.size := by omega
  have W_6 := Lib.hid (W_5.out.kept hg6 (by cases h0 : (Value.slice A0 N c0).ownBlock with | none => exact Or.inl rfl | some j => exact Or.inr (fun e => by have a := (W_b.out.lt j h0).2; have b := (G_b.out.lt j e.symm).1; omega)))
  have G_6 := Lib.hid ho6
  clear hb5 hg6 ho6
  go_wp2_with fail
  refine (heldI_any A1 N c1 1 _ (IRow.of_own G_6.out (by omega) (rng_mkI N (by omega))) (by omega) (by omega) (by omega)).mono ?_
  rintro e w' ⟨rfl, rfl⟩
  go_wp2_with fail
  refine (toFraction_any p q _).mono ?_
  rintro e w7 ⟨rfl, hd7⟩
  obtain ⟨hc7, hf7, _⟩ := keepc hd7
  have hb7 : Below w.heap.size w w7 := hb6.trans (hd7.mono hb6.size)
  have hs7 : w6.heap.size ≤ w7.heap.size := hd7.size
  have hl7_0 : w.heap.size < w7.heap.size := by omega
  have W_7 := Lib.hid (own_below W_6.out hd7)
  have G_7 := Lib.hid (own_below G_6.out hd7)
  clear hd7 hb6
  go_wp2_with fail
  refine (HI.out _).mono ?_
  rintro e w8 ⟨⟨A2, c2, rfl, oH⟩, hd8⟩
  obtain ⟨hc8, hf8, _⟩ := keepc hd8
  have hb8 : Below w.heap.size w w8 := hb7.trans (hd8.mono hb7.size)
  have hs8 : w7.heap.size ≤ w8.heap.size := hd8.size
  have hl8_0 : w.heap.size < w8.heap.size := by omega
  have W_8 := Lib.hid (own_below W_7.out hd8)
  have G_8 := Lib.hid (own_below G_7.out hd8)
  clear hd8 hb7
  have H_8 := Lib.hid oH
  have H_b := Lib.hid oH
  clear oH
  go_wp2_with fail
  refine (eqInt64S_same A2 N c2 A0 c0 zs0 _ (IRow.of_own H_8.out (by omega) HR.out) (IRow.of_own W_8.out (by omega) HR.out)).mono ?_
  rintro e w9 ⟨rfl, hd9⟩
  obtain ⟨hc9, hf9, _⟩ := keepc hd9
  have hb9 : Below w.heap.size w w9 := hb8.trans (hd9.mono hb8.size)
  have hs9 : w8.heap.size ≤ w9.heap.size := hd9.size
  have hl9_0 : w.heap.size < w9.heap.size := by omega
  have W_9 := Lib.hid (own_below W_8.out hd9)
  have G_9 := Lib.hid (own_below G_8.out hd9)
  have H_9 := Lib.hid (own_below H_8.out hd9)
  clear hd9 hb8
  go_wp2_with fail
  refine (heldI_any A1 N c1 1 _ (IRow.of_own G_9.out (by omega) (rng_mkI N (by omega))) (by omega) (by omega) (by omega)).mono ?_
  rintro e w' ⟨rfl, rfl⟩
  go_wp2_with fail
  go_ret
  exact ⟨rfl, hb9⟩
end Go.Proofs.Ytjkonkoiofhefaa
