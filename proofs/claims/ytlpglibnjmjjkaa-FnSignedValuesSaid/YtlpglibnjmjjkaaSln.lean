/-
  The numbers of terms by all kinds: contracts of the exported functions; the walk of the law FnExactSignedLengths.
  No condition but those of the law's own text.
-/
import Derived.Test.YtlpglibnjmjjkaaProg
import Derived.Test.YtlpglibnjmjjkaaMem
import Derived.Test.YtlpglibnjmjjkaaBasic
import Derived.Test.YtlpglibnjmjjkaaInts
import Derived.Test.YtlpglibnjmjjkaaFrac
import Derived.Test.YtlpglibnjmjjkaaMarks
import Derived.Test.YtlpglibnjmjjkaaOwn
import Derived.Test.YtlpglibnjmjjkaaKnd
import Derived.Handy
import Derived.BigQuiet
import Derived.Deep.QuietTactic
import Derived.Deep.AppendLies
namespace Go.Proofs.Ytlpglibnjmjjkaa
open Go.RowKit
set_option linter.unusedVariables false
set_option linter.unusedSimpArgs false
attribute [local go_sem ↓] Go.wp_at_zero Go.wp_at_succ

/-- The number of terms by a kind, or -1. -/
def lenK (p q kd : Int) : Int := if exsC p q kd = 0 then ((exsL p q kd).length : Int) else -1
def lenP (p q : Int) (j : Nat) : List Int := (List.range j).map fun i : Nat => lenK p q ((i : Int) + 1)
theorem lenP_succ (p q : Int) (j : Nat) : lenP p q (j + 1) = lenP p q j ++ [lenK p q ((j : Int) + 1)] := by unfold lenP; rw [List.range_succ, List.map_append]; rfl
theorem lenP_len (p q : Int) (j : Nat) : (lenP p q j).length = j := by unfold lenP; simp
def slnL (p q : Int) : List Int := if vfB p q = true then lenP p q 4 else []
def slnC (p q : Int) : Int := if vfB p q = true then 0 else 1
theorem lenK_bd (p q kd : Int) : -1 ≤ lenK p q kd ∧ lenK p q kd ≤ 60 := by
  unfold lenK
  have := exsL_len p q kd
  split <;> omega
theorem slnL_len (p q : Int) : (slnL p q).length ≤ 4 := by
  unfold slnL
  split
  · rw [lenP_len]; exact Nat.le_refl _
  · simp
theorem slnL_rng (p q : Int) : ∀ z ∈ slnL p q, Rng z := by
  intro z hz
  unfold slnL at hz
  split at hz
  · unfold lenP at hz
    obtain ⟨i, _, rfl⟩ := List.mem_map.1 hz
    have := lenK_bd p q ((i : Int) + 1)
    unfold Rng; omega
  · cases hz

set_option maxRecDepth 100000 in
set_option maxHeartbeats 3200000 in
theorem implSln_any (p q : Int) (w : World) : Calls Try.prog 12 #[.agg #[.int .i64 p, .int .i64 q]] w fun e w' => ResI w.heap.size (slnL p q) (slnC p q) e w' ∧ Below w.heap.size w w' := by
  cases hv : vfB p q
  · rw [show slnL p q = [] from if_neg (by simp [hv]), show slnC p q = 1 from if_neg (by simp [hv])]
    go_enter Try.func12, Try.ntmps12
    go_wp2_with fail
    refine (validFraction_any p q _).mono ?_
    rintro e w1 ⟨rfl, hb1⟩
    obtain ⟨hc1, hf1, hs1⟩ := keepc hb1
    have hB1 : Below w.heap.size w w1 := Below.trans (by go_grown) (hb1.mono (by first | exact Nat.le_refl _ | (simp only [World.size_alloc]; omega)))
    try simp only [World.size_alloc] at hs1
    have hl1_0 : w.heap.size < w1.heap.size := by omega
    go_wp2_with fail
    go_ret2
    exact ⟨⟨none, 0, rfl, World.ownsRow_nil ..⟩, hB1⟩
  · rw [show slnL p q = lenP p q 4 from if_pos hv, show slnC p q = 0 from if_pos hv]
    obtain ⟨i0, hi, hz0, hz1, hz2⟩ := info_parts info_i64
    go_enter Try.func12, Try.ntmps12
    go_wp2_with fail
    refine (validFraction_any p q _).mono ?_
    rintro e w1 ⟨rfl, hb1⟩
    obtain ⟨hc1, hf1, hs1⟩ := keepc hb1
    have hB1 : Below w.heap.size w w1 := Below.trans (by go_grown) (hb1.mono (by first | exact Nat.le_refl _ | (simp only [World.size_alloc]; omega)))
    try simp only [World.size_alloc] at hs1
    have hl1_0 : w.heap.size < w1.heap.size := by omega
    rw [hv]
    have c0 : w1.cell? ⟨w.heap.size, 0, none⟩ = some (.int .i64 p) := (hb1.cell (p := ⟨w.heap.size, 0, none⟩) (by simp)).trans (newcellA rfl rfl)
    have c1 : w1.cell? ⟨w.heap.size, 1, none⟩ = some (.int .i64 q) := (hb1.cell (p := ⟨w.heap.size, 1, none⟩) (by simp)).trans (newcellA rfl rfl)
    clear hc1 hf1 hb1
    go_wp2_with fail
    go_loopw [4, 5] (fun l u wr => ∃ (j : Nat) (A : Option Addr) (c : Nat), j ≤ 4 ∧ u = .int .i64 ((j : Int) + 1) ∧ l = .slice A j c ∧ wr.cell? ⟨w.heap.size, 0, none⟩ = some (.int .i64 p) ∧ wr.cell? ⟨w.heap.size, 1, none⟩ = some (.int .i64 q) ∧
      wr.ownsRow (w.heap.size + 1) 2 1 (.slice A j c) j ((lenP p q j).map (Value.int .i64)) ∧ Below w.heap.size w wr) (fun _ u _ => (5 - intOf u).toNat)
    case atStart => exact ⟨0, none, 0, by omega, rfl, rfl, c0, c1, World.ownsRow_nil .., hB1⟩
    case round =>
      obtain ⟨j, A, c, hj, rfl, rfl, c0, c1, hown, hB⟩ := hrel
      have HO := Lib.hid hown
      have HF := Lib.hid hown.lt
      have hbase : w.heap.size ≤ wr.heap.size := hB.size
      have hlw : w.heap.size < wr.heap.size := World.block_lt_of_cell? wr ⟨w.heap.size, 0, none⟩ c0
      clear hown
      by_cases hlt : j < 4
      · have hle : decide ((j : Int) + 1 ≤ 4) = true := decide_eq_true (by omega)
        have HE := Lib.hid (fun w => implExs_any p q ((j : Int) + 1) w)
        have hlen := exsL_len p q ((j : Int) + 1)
        by_cases hk : exsC p q ((j : Int) + 1) = 0
        · have HK := Lib.hid (show lenK p q ((j : Int) + 1) = ((exsL p q ((j : Int) + 1)).length : Int) from if_pos hk)
          rw [hk] at HE
          unfold ResS at HE
          generalize exsL p q ((j : Int) + 1) = zs at *
          obtain ⟨N, hN⟩ : ∃ N, N = zs.length := ⟨_, rfl⟩
          rw [← hN] at HE hlen HK
          clear hk hN
          go_wp2_with fail
          refine (HE.out _).mono ?_
          rintro e w2 ⟨⟨B, c2, rfl, ho2⟩, hb2⟩
          have hB2 : Below w.heap.size w w2 := hB.trans (hb2.mono hbase)
          have hbase2 : w.heap.size ≤ w2.heap.size := hB2.size
          have hlw2 : w.heap.size < w2.heap.size := Nat.lt_of_lt_of_le hlw hb2.size
          have d0 := (hb2.cell (p := ⟨w.heap.size, 0, none⟩) hlw).trans c0
          have d1 := (hb2.cell (p := ⟨w.heap.size, 1, none⟩) hlw).trans c1
          have HO2 := Lib.hid (own_below HO.out hb2)
          clear ho2 hb2 HO hB
          go_wp2_with (first | (go_at_call 34; go_in) | (at_builtin; refine wpList_append_lies _ rfl (.tmp 26) (.tmp 28) 33 rfl (w.heap.size + 1) 2 i0 (.int .i64 0) 1 8 Try.underlying33 hi hz0 hz1 hz2 rfl (by decide) _ j ((lenP p q j).map (Value.int .i64)) (by rfl) (HO2.out.alloc _) ⟨w2.heap.size, 0, none⟩ 1 1 [.int .i64 (N : Int)] (by rfl) rfl ?cells (by simp [Value.oneCell']) (by decide) (by show j + 1 ≤ 9223372036854775807; omega) (by omega) (by simp; omega) (w2.heap.size + 1) (by simp) ?_; rotate_left; intro g cap1 wn hown1 hgrow hat hlt1))
          case cells => exact fun j u hu => newcell (by simp) hu
          rw [← List.map_singleton (f := Value.int .i64), ← List.map_append] at hown1
          go_roundw
          case rel =>
            refine ⟨j + 1, _, _, by omega, by go_num, rfl, ?_, ?_, by rw [lenP_succ, HK.out]; exact hown1, (hB2.alloc hbase2 _).grown hgrow (by simp; omega) (fun k hk => Nat.le_of_succ_le (HF.out k hk).1)⟩
            · exact hgrow.cell ((World.cell?_alloc_lt _ _ _ hlw2).trans d0) (fun e => by have := (HF.out _ e.symm).1; simp at this; omega)
            · exact hgrow.cell ((World.cell?_alloc_lt _ _ _ hlw2).trans d1) (fun e => by have := (HF.out _ e.symm).1; simp at this; omega)
          case measure => simp [intOf]; omega
        · have HK := Lib.hid (show lenK p q ((j : Int) + 1) = -1 from if_neg hk)
          have hne : (exsC p q ((j : Int) + 1) != 0) = true := by rw [bne_iff_ne]; exact hk
          generalize exsC p q ((j : Int) + 1) = k at *
          unfold ResS at HE
          generalize exsL p q ((j : Int) + 1) = zs at *
          obtain ⟨N, hN⟩ : ∃ N, N = zs.length := ⟨_, rfl⟩
          rw [← hN] at HE hlen
          clear hk hN
          go_wp2_with fail
          refine (HE.out _).mono ?_
          rintro e w2 ⟨⟨B, c2, rfl, ho2⟩, hb2⟩
          have hB2 : Below w.heap.size w w2 := hB.trans (hb2.mono hbase)
          have hbase2 : w.heap.size ≤ w2.heap.size := hB2.size
          have hlw2 : w.heap.size < w2.heap.size := Nat.lt_of_lt_of_le hlw hb2.size
          have d0 := (hb2.cell (p := ⟨w.heap.size, 0, none⟩) hlw).trans c0
          have d1 := (hb2.cell (p := ⟨w.heap.size, 1, none⟩) hlw).trans c1
          have HO2 := Lib.hid (own_below HO.out hb2)
          clear ho2 hb2 HO hB
          go_wp2_with (first | (go_at_call 34; go_in) | (at_builtin; refine wpList_append_lies _ rfl (.tmp 26) (.tmp 28) 33 rfl (w.heap.size + 1) 2 i0 (.int .i64 0) 1 8 Try.underlying33 hi hz0 hz1 hz2 rfl (by decide) _ j ((lenP p q j).map (Value.int .i64)) (by rfl) (HO2.out.alloc _) ⟨w2.heap.size, 0, none⟩ 1 1 [.int .i64 (-1)] (by rfl) rfl ?cells (by simp [Value.oneCell']) (by decide) (by show j + 1 ≤ 9223372036854775807; omega) (by omega) (by simp; omega) (w2.heap.size + 1) (by simp) ?_; rotate_left; intro g cap1 wn hown1 hgrow hat hlt1))
          case cells => exact fun j u hu => newcell (by simp) hu
          rw [← List.map_singleton (f := Value.int .i64), ← List.map_append] at hown1
          go_roundw
          case rel =>
            refine ⟨j + 1, _, _, by omega, by go_num, rfl, ?_, ?_, by rw [lenP_succ, HK.out]; exact hown1, (hB2.alloc hbase2 _).grown hgrow (by simp; omega) (fun k hk => Nat.le_of_succ_le (HF.out k hk).1)⟩
            · exact hgrow.cell ((World.cell?_alloc_lt _ _ _ hlw2).trans d0) (fun e => by have := (HF.out _ e.symm).1; simp at this; omega)
            · exact hgrow.cell ((World.cell?_alloc_lt _ _ _ hlw2).trans d1) (fun e => by have := (HF.out _ e.symm).1; simp at this; omega)
          case measure => simp [intOf]; omega
      · obtain rfl : j = 4 := by omega
        go_wp2_with fail
        go_ret2
        unfold ResI
        rw [lenP_len]
        exact ⟨⟨_, _, rfl, own_base HO.out (by omega)⟩, hB⟩
set_option maxRecDepth 100000 in
set_option maxHeartbeats 3200000 in
theorem specSln_any (p q : Int) (w : World) : Calls Try.prog 13 #[.agg #[.int .i64 p, .int .i64 q]] w fun e w' => ResI w.heap.size (slnL p q) (slnC p q) e w' ∧ Below w.heap.size w w' := by
  cases hv : vfB p q
  · rw [show slnL p q = [] from if_neg (by simp [hv]), show slnC p q = 1 from if_neg (by simp [hv])]
    go_enter Try.func13, Try.ntmps13
    go_wp2_with fail
    refine (l02Ok_any p q _).mono ?_
    rintro e w1 ⟨rfl, hb1⟩
    obtain ⟨hc1, hf1, hs1⟩ := keepc hb1
    have hB1 : Below w.heap.size w w1 := Below.trans (by go_grown) (hb1.mono (by first | exact Nat.le_refl _ | (simp only [World.size_alloc]; omega)))
    try simp only [World.size_alloc] at hs1
    have hl1_0 : w.heap.size < w1.heap.size := by omega
    go_wp2_with fail
    go_ret2
    exact ⟨⟨none, 0, rfl, World.ownsRow_nil ..⟩, hB1⟩
  · rw [show slnL p q = lenP p q 4 from if_pos hv, show slnC p q = 0 from if_pos hv]
    obtain ⟨i0, hi, hz0, hz1, hz2⟩ := info_parts info_i64
    go_enter Try.func13, Try.ntmps13
    go_wp2_with fail
    refine (l02Ok_any p q _).mono ?_
    rintro e w1 ⟨rfl, hb1⟩
    obtain ⟨hc1, hf1, hs1⟩ := keepc hb1
    have hB1 : Below w.heap.size w w1 := Below.trans (by go_grown) (hb1.mono (by first | exact Nat.le_refl _ | (simp only [World.size_alloc]; omega)))
    try simp only [World.size_alloc] at hs1
    have hl1_0 : w.heap.size < w1.heap.size := by omega
    rw [hv]
    have c0 : w1.cell? ⟨w.heap.size, 0, none⟩ = some (.int .i64 p) := (hb1.cell (p := ⟨w.heap.size, 0, none⟩) (by simp)).trans (newcellA rfl rfl)
    have c1 : w1.cell? ⟨w.heap.size, 1, none⟩ = some (.int .i64 q) := (hb1.cell (p := ⟨w.heap.size, 1, none⟩) (by simp)).trans (newcellA rfl rfl)
    clear hc1 hf1 hb1
    go_wp2_with fail
    go_loopw [4, 5] (fun l u wr => ∃ (j : Nat) (A : Option Addr) (c : Nat), j ≤ 4 ∧ u = .int .i64 ((j : Int) + 1) ∧ l = .slice A j c ∧ wr.cell? ⟨w.heap.size, 0, none⟩ = some (.int .i64 p) ∧ wr.cell? ⟨w.heap.size, 1, none⟩ = some (.int .i64 q) ∧
      wr.ownsRow (w.heap.size + 1) 2 1 (.slice A j c) j ((lenP p q j).map (Value.int .i64)) ∧ Below w.heap.size w wr) (fun _ u _ => (5 - intOf u).toNat)
    case atStart => refine ⟨0, _, _, by omega, rfl, rfl, (World.cell?_alloc_lt _ _ _ hl1_0).trans c0, (World.cell?_alloc_lt _ _ _ hl1_0).trans c1, World.ownsRow_made w1 #[] 0 (by omega) (by decide) rfl, hB1.alloc (by omega) _⟩
    case round =>
      obtain ⟨j, A, c, hj, rfl, rfl, c0, c1, hown, hB⟩ := hrel
      have HO := Lib.hid hown
      have HF := Lib.hid hown.lt
      have hbase : w.heap.size ≤ wr.heap.size := hB.size
      have hlw : w.heap.size < wr.heap.size := World.block_lt_of_cell? wr ⟨w.heap.size, 0, none⟩ c0
      clear hown
      by_cases hlt : j < 4
      · have hle : decide ((j : Int) + 1 ≤ 4) = true := decide_eq_true (by omega)
        have HE := Lib.hid (fun w => specExs_any p q ((j : Int) + 1) w)
        have hlen := exsL_len p q ((j : Int) + 1)
        by_cases hk : exsC p q ((j : Int) + 1) = 0
        · have HK := Lib.hid (show lenK p q ((j : Int) + 1) = ((exsL p q ((j : Int) + 1)).length : Int) from if_pos hk)
          rw [hk] at HE
          unfold ResS at HE
          generalize exsL p q ((j : Int) + 1) = zs at *
          obtain ⟨N, hN⟩ : ∃ N, N = zs.length := ⟨_, rfl⟩
          rw [← hN] at HE hlen HK
          clear hk hN
          go_wp2_with fail
          refine (HE.out _).mono ?_
          rintro e w2 ⟨⟨B, c2, rfl, ho2⟩, hb2⟩
          have hB2 : Below w.heap.size w w2 := hB.trans (hb2.mono hbase)
          have hbase2 : w.heap.size ≤ w2.heap.size := hB2.size
          have hlw2 : w.heap.size < w2.heap.size := Nat.lt_of_lt_of_le hlw hb2.size
          have d0 := (hb2.cell (p := ⟨w.heap.size, 0, none⟩) hlw).trans c0
          have d1 := (hb2.cell (p := ⟨w.heap.size, 1, none⟩) hlw).trans c1
          have HO2 := Lib.hid (own_below HO.out hb2)
          clear ho2 hb2 HO hB
          go_wp2_with (first | (at_builtin; refine wpList_append_lies _ rfl (.tmp 27) (.tmp 30) 33 rfl (w.heap.size + 1) 2 i0 (.int .i64 0) 1 8 Try.underlying33 hi hz0 hz1 hz2 rfl (by decide) _ j ((lenP p q j).map (Value.int .i64)) (by rfl) (HO2.out.alloc _) ⟨w2.heap.size, 0, none⟩ 1 1 [.int .i64 (N : Int)] (by rfl) rfl ?cells (by simp [Value.oneCell']) (by decide) (by show j + 1 ≤ 9223372036854775807; omega) (by omega) (by simp; omega) (w2.heap.size + 1) (by simp) ?_; rotate_left; intro g cap1 wn hown1 hgrow hat hlt1))
          case cells => exact fun j u hu => newcell (by simp) hu
          rw [← List.map_singleton (f := Value.int .i64), ← List.map_append] at hown1
          go_roundw
          case rel =>
            refine ⟨j + 1, _, _, by omega, by go_num, rfl, ?_, ?_, by rw [lenP_succ, HK.out]; exact hown1, (hB2.alloc hbase2 _).grown hgrow (by simp; omega) (fun k hk => Nat.le_of_succ_le (HF.out k hk).1)⟩
            · exact hgrow.cell ((World.cell?_alloc_lt _ _ _ hlw2).trans d0) (fun e => by have := (HF.out _ e.symm).1; simp at this; omega)
            · exact hgrow.cell ((World.cell?_alloc_lt _ _ _ hlw2).trans d1) (fun e => by have := (HF.out _ e.symm).1; simp at this; omega)
          case measure => simp [intOf]; omega
        · have HK := Lib.hid (show lenK p q ((j : Int) + 1) = -1 from if_neg hk)
          have hne : (exsC p q ((j : Int) + 1) != 0) = true := by rw [bne_iff_ne]; exact hk
          generalize exsC p q ((j : Int) + 1) = k at *
          unfold ResS at HE
          generalize exsL p q ((j : Int) + 1) = zs at *
          obtain ⟨N, hN⟩ : ∃ N, N = zs.length := ⟨_, rfl⟩
          rw [← hN] at HE hlen
          clear hk hN
          go_wp2_with fail
          refine (HE.out _).mono ?_
          rintro e w2 ⟨⟨B, c2, rfl, ho2⟩, hb2⟩
          have hB2 : Below w.heap.size w w2 := hB.trans (hb2.mono hbase)
          have hbase2 : w.heap.size ≤ w2.heap.size := hB2.size
          have hlw2 : w.heap.size < w2.heap.size := Nat.lt_of_lt_of_le hlw hb2.size
          have d0 := (hb2.cell (p := ⟨w.heap.size, 0, none⟩) hlw).trans c0
          have d1 := (hb2.cell (p := ⟨w.heap.size, 1, none⟩) hlw).trans c1
          have HO2 := Lib.hid (own_below HO.out hb2)
          clear ho2 hb2 HO hB
          go_wp2_with (first | (at_builtin; refine wpList_append_lies _ rfl (.tmp 24) (.tmp 25) 33 rfl (w.heap.size + 1) 2 i0 (.int .i64 0) 1 8 Try.underlying33 hi hz0 hz1 hz2 rfl (by decide) _ j ((lenP p q j).map (Value.int .i64)) (by rfl) (HO2.out.alloc _) ⟨w2.heap.size, 0, none⟩ 1 1 [.int .i64 (-1)] (by rfl) rfl ?cells (by simp [Value.oneCell']) (by decide) (by show j + 1 ≤ 9223372036854775807; omega) (by omega) (by simp; omega) (w2.heap.size + 1) (by simp) ?_; rotate_left; intro g cap1 wn hown1 hgrow hat hlt1))
          case cells => exact fun j u hu => newcell (by simp) hu
          rw [← List.map_singleton (f := Value.int .i64), ← List.map_append] at hown1
          go_roundw
          case rel =>
            refine ⟨j + 1, _, _, by omega, by go_num, rfl, ?_, ?_, by rw [lenP_succ, HK.out]; exact hown1, (hB2.alloc hbase2 _).grown hgrow (by simp; omega) (fun k hk => Nat.le_of_succ_le (HF.out k hk).1)⟩
            · exact hgrow.cell ((World.cell?_alloc_lt _ _ _ hlw2).trans d0) (fun e => by have := (HF.out _ e.symm).1; simp at this; omega)
            · exact hgrow.cell ((World.cell?_alloc_lt _ _ _ hlw2).trans d1) (fun e => by have := (HF.out _ e.symm).1; simp at this; omega)
          case measure => simp [intOf]; omega
      · obtain rfl : j = 4 := by omega
        go_wp2_with fail
        go_ret2
        unfold ResI
        rw [lenP_len]
        exact ⟨⟨_, _, rfl, own_base HO.out (by omega)⟩, hB⟩
end Go.Proofs.Ytlpglibnjmjjkaa
