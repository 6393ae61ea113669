/-
  Copies of lists, and the short form of terms: contracts of the program's and of the reference's functions.
  No condition but that the terms are at most 2000000000 in size and the lists not longer than 1048576.
-/
import Derived.Test.YtjkonkoiofhefaaProg
import Derived.Test.YtjkonkoiofhefaaMem
import Derived.Test.YtjkonkoiofhefaaBasic
import Derived.Test.YtjkonkoiofhefaaInts
import Derived.Test.YtjkonkoiofhefaaMarks
import Derived.Test.YtjkonkoiofhefaaOwn
import Derived.Lib.SliceRun
import Derived.Handy
import Derived.BigQuiet
import Derived.Deep.QuietTactic
import Derived.Deep.AppendLies
namespace Go.Proofs.Ytjkonkoiofhefaa
open Go.RowKit
set_option linter.unusedVariables false
attribute [local go_sem ↓] Go.wp_at_zero Go.wp_at_succ

/-- A slice of n numbers, the call's own. -/
def RetN (base n : Nat) (zs : List Int) (e : Ending) (w : World) : Prop :=
  ∃ A c, e = .returned (.slice A n c) ∧ w.ownsRow base 2 1 (.slice A n c) n (zs.map (Value.int .i64))

set_option maxRecDepth 100000 in
set_option maxHeartbeats 800000 in
theorem clone_any (A : Option Addr) (n cap : Nat) (zs : List Int) (w : World) (h : IRow w A n zs) (hn : 1 ≤ n) (hn2 : n ≤ 1048576) :
    Calls Try.prog 101 #[.slice A n cap] w fun e w' => RetN w.heap.size n zs e w' ∧ Below w.heap.size w w' := by
  obtain ⟨i0, hi, hz0, hz1, hz2⟩ := info_parts info_i64
  have hq := fun (w : World) a n c => Lib.run_eql_slice_nil (P := Try.prog) w 37 2 a n c 0 0 Try.underlying37
  obtain ⟨ad, z, rfl, _⟩ := h.at_ (k := 0) (by omega)
  have hown0 : (w.alloc (.cells #[] 2)).ownsRow w.heap.size 2 1 (.slice (some ⟨w.heap.size, 0, none⟩) 0 0) 0 [] := World.ownsRow_made w #[] 0 (Nat.le_refl _) (by decide) rfl
  have HO := Lib.hid hown0
  have HL := Lib.hid h.len
  have HW := Lib.hid (h.alloc (.cells #[] 2))
  clear hown0 h
  go_enter Try.func101, Try.ntmps101
  go_wp2_with (first | (at_builtin; refine wpList_append_lies _ rfl (.tmp 5) (.tmp 6) 37 rfl w.heap.size 2 i0 (.int .i64 0) 1 8 Try.underlying37 hi hz0 hz1 hz2 rfl (by decide) _ 0 [] (by rfl) HO.out ad n cap (zs.map (Value.int .i64)) (by rfl) ?len ?cells ?one (by omega) (by show 0 + n ≤ 9223372036854775807; omega) (by omega) (by simp) (w.heap.size + 1) (by simp) ?_; rotate_left; rotate_left; rotate_left; intro g cap1 w1 hown1 hgrow hat hlt1))
  case len => rw [List.length_map, HL.out, Nat.mul_one]
  case cells =>
    intro j u hu
    obtain ⟨ad', e, hc⟩ := HW.out.2.2.2 j u hu
    injection e with e
    subst e
    exact hc
  case one =>
    intro u hu
    obtain ⟨_, _, rfl⟩ := List.mem_map.1 hu
    rfl
  go_ret
  simp only [Nat.zero_add, List.nil_append] at hown1
  exact ⟨⟨_, _, rfl, hown1⟩, ((Below.refl _ _).alloc (Nat.le_refl _) _).grown hgrow (by simp) (fun k hk => by simp [Value.ownBlock] at hk; omega)⟩
set_option maxRecDepth 100000 in
set_option maxHeartbeats 800000 in
theorem l00Own_any (A : Option Addr) (n cap : Nat) (zs : List Int) (w : World) (h : IRow w A n zs) (hn : 1 ≤ n) (hn2 : n ≤ 1048576) :
    Calls Try.prog 95 #[.slice A n cap] w fun e w' => RetN w.heap.size n zs e w' ∧ Below w.heap.size w w' := by
  obtain ⟨i0, hi, hz0, hz1, hz2⟩ := info_parts info_i64
  have hq := fun (w : World) a n c => Lib.run_eql_slice_nil (P := Try.prog) w 37 2 a n c 0 0 Try.underlying37
  obtain ⟨ad, z, rfl, _⟩ := h.at_ (k := 0) (by omega)
  have hown0 : (w.alloc (.cells #[] 2)).ownsRow w.heap.size 2 1 (.slice (some ⟨w.heap.size, 0, none⟩) 0 0) 0 [] := World.ownsRow_made w #[] 0 (Nat.le_refl _) (by decide) rfl
  have HO := Lib.hid hown0
  have HL := Lib.hid h.len
  have HW := Lib.hid (h.alloc (.cells #[] 2))
  clear hown0 h
  go_enter Try.func95, Try.ntmps95
  go_wp2_with (first | (at_builtin; refine wpList_append_lies _ rfl (.tmp 3) (.tmp 4) 37 rfl w.heap.size 2 i0 (.int .i64 0) 1 8 Try.underlying37 hi hz0 hz1 hz2 rfl (by decide) _ 0 [] (by rfl) HO.out ad n cap (zs.map (Value.int .i64)) (by rfl) ?len ?cells ?one (by omega) (by show 0 + n ≤ 9223372036854775807; omega) (by omega) (by simp) (w.heap.size + 1) (by simp) ?_; rotate_left; rotate_left; rotate_left; intro g cap1 w1 hown1 hgrow hat hlt1))
  case len => rw [List.length_map, HL.out, Nat.mul_one]
  case cells =>
    intro j u hu
    obtain ⟨ad', e, hc⟩ := HW.out.2.2.2 j u hu
    injection e with e
    subst e
    exact hc
  case one =>
    intro u hu
    obtain ⟨_, _, rfl⟩ := List.mem_map.1 hu
    rfl
  go_ret
  simp only [Nat.zero_add, List.nil_append] at hown1
  exact ⟨⟨_, _, rfl, hown1⟩, ((Below.refl _ _).alloc (Nat.le_refl _) _).grown hgrow (by simp) (fun k hk => by simp [Value.ownBlock] at hk; omega)⟩

/-- The last of several terms is 1. -/
def shB (zs : List Int) : Bool := decide (1 < zs.length ∧ zs[zs.length - 1]? = some 1)
/-- Terms with the same value of which the last is not 1, unless it is the only one. -/
def shL (zs : List Int) : List Int := if shB zs = true then (zs.take (zs.length - 1)).set (zs.length - 2) (zs.getD (zs.length - 2) 0 + 1) else zs
theorem shL_f {zs : List Int} (h : ¬ (1 < zs.length ∧ zs[zs.length - 1]? = some 1)) : shL zs = zs := if_neg (by unfold shB; simpa using h)
theorem shL_t {zs : List Int} {n : Nat} {y : Int} (hl : zs.length = n) (hn : 2 ≤ n) (h : zs[n - 1]? = some 1) (hy : zs[n - 2]? = some y) : shL zs = (zs.take (n - 1)).set (n - 2) (y + 1) := by
  have e : zs.getD (n - 2) 0 = y := by rw [List.getD_eq_getElem?_getD, hy]; rfl
  unfold shL
  rw [if_pos (by unfold shB; rw [hl]; exact decide_eq_true ⟨by omega, h⟩), hl, e]
theorem shL_len (zs : List Int) : (shL zs).length ≤ zs.length := by
  unfold shL
  split
  · rw [List.length_set, List.length_take]; omega
  · exact Nat.le_refl _

theorem take_row {w : World} {A : Option Addr} {n : Nat} {zs : List Int} (h : IRow w A n zs) (k : Nat) (hk : k ≤ n) : IRow w A k (zs.take k) :=
  ⟨by rw [List.length_take, h.1]; omega, by have := h.2.1; omega, fun z hz => h.2.2.1 z (List.mem_of_mem_take hz), by have := h.2.2.2.take_ k; rwa [← List.map_take] at this⟩

set_option maxRecDepth 100000 in
set_option maxHeartbeats 1600000 in
theorem shortForm_any (A : Option Addr) (n cap : Nat) (zs : List Int) (w : World) (h : IRow w A n zs) (hcap : n ≤ cap) (hn : 1 ≤ n) (hn2 : n ≤ 1048576) (hzb : ∀ z ∈ zs, -2000000000 ≤ z ∧ z ≤ 2000000000) :
    Calls Try.prog 60 #[.slice A n cap] w fun e w' => RetN w.heap.size (shL zs).length (shL zs) e w' ∧ Below w.heap.size w w' := by
  have hl := h.len
  rcases (by omega : n = 1 ∨ 2 ≤ n) with h1 | h2
  · subst h1
    have HC := Lib.hid (clone_any A 1 cap zs w h (by omega) hn2)
    rw [shL_f (by rw [hl]; omega), hl]
    clear h hl
    go_enter Try.func60, Try.ntmps60
    go_wp2_with fail
    refine HC.out.mono ?_
    rintro e w1 ⟨⟨A', c', rfl, ho⟩, hb⟩
    have HO := Lib.hid ho
    clear ho HC
    go_wp2_with fail
    go_ret
    exact ⟨⟨_, _, rfl, HO.out⟩, hb⟩
  · obtain ⟨ad, z, rfl, hz, z1, z2, hc⟩ := h.at_ (k := n - 1) (by omega)
    by_cases hz1 : z = 1
    · subst hz1
      obtain ⟨ad', y, e, hy, y1, y2, hcy⟩ := h.at_ (k := n - 2) (by omega)
      injection e with e
      subst e
      obtain ⟨b1, b2⟩ := hzb y (List.mem_of_getElem? hy)
      have hty : (zs.take (n - 1))[n - 2]? = some y := by rw [List.getElem?_take, if_pos (by omega)]; exact hy
      have HC := Lib.hid (clone_any (some ad) (n - 1) cap (zs.take (n - 1)) w (take_row h (n - 1) (by omega)) (by omega) (by omega))
      have hlen : (shL zs).length = n - 1 := by rw [shL_t hl h2 hz hy, List.length_set, List.length_take, hl]; omega
      rw [hlen, shL_t hl h2 hz hy]
      have HY := Lib.hid hty
      clear h hl hz hy hty hcy hlen hzb
      go_enter Try.func60, Try.ntmps60
      go_wp2_with fail
      refine HC.out.mono ?_
      rintro e w1 ⟨⟨A', c', rfl, ho⟩, hb⟩
      obtain ⟨g, rfl, hg1, hg2⟩ := own_some ho (by omega)
      have hcell := own_cellI ho HY.out
      have hfr := ho.frozenAt (n - 2)
      have HS := Lib.hid (own_setI ho (n - 2) (y + 1))
      clear ho HC
      go_wp2_with fail
      go_ret
      exact ⟨⟨_, _, rfl, HS.out⟩, hb.setCell (p := ⟨g, n - 2, none⟩) hg1 _⟩
    · have HC := Lib.hid (clone_any (some ad) n cap zs w h (by omega) hn2)
      have hne : (z == 1) = false := by rw [beq_eq_false_iff_ne]; exact hz1
      rw [shL_f (by rintro ⟨_, e⟩; rw [hl, hz] at e; injection e with e; exact hz1 e), hl]
      clear h hl hz hz1 hzb
      go_enter Try.func60, Try.ntmps60
      go_wp2_with fail
      refine HC.out.mono ?_
      rintro e w1 ⟨⟨A', c', rfl, ho⟩, hb⟩
      have HO := Lib.hid ho
      clear ho HC
      go_wp2_with fail
      go_ret
      exact ⟨⟨_, _, rfl, HO.out⟩, hb⟩
set_option maxRecDepth 100000 in
set_option maxHeartbeats 1600000 in
theorem l03Short_any (A : Option Addr) (n cap : Nat) (zs : List Int) (w : World) (h : IRow w A n zs) (hn : 1 ≤ n) (hn2 : n ≤ 1048576) (hzb : ∀ z ∈ zs, -2000000000 ≤ z ∧ z ≤ 2000000000) :
    Calls Try.prog 57 #[.slice A n cap] w fun e w' => RetN w.heap.size (shL zs).length (shL zs) e w' ∧ Below w.heap.size w w' := by
  have hl := h.len
  have HC := Lib.hid (l00Own_any A n cap zs w h hn hn2)
  rcases (by omega : n = 1 ∨ 2 ≤ n) with h1 | h2
  · subst h1
    rw [shL_f (by rw [hl]; omega), hl]
    clear h hl
    go_enter Try.func57, Try.ntmps57
    go_wp2_with fail
    refine HC.out.mono ?_
    rintro e w1 ⟨⟨A', c', rfl, ho⟩, hb⟩
    have HO := Lib.hid ho
    clear ho HC
    go_wp2_with fail
    go_ret
    exact ⟨⟨_, _, rfl, HO.out⟩, hb⟩
  · obtain ⟨ad, z, rfl, hz, z1, z2, hc⟩ := h.at_ (k := n - 1) (by omega)
    have HW := Lib.hid h
    by_cases hz1 : z = 1
    · subst hz1
      obtain ⟨ad', y, e, hy, y1, y2, hcy⟩ := h.at_ (k := n - 2) (by omega)
      injection e with e
      subst e
      obtain ⟨b1, b2⟩ := hzb y (List.mem_of_getElem? hy)
      have hty : (zs.take (n - 1))[n - 2]? = some y := by rw [List.getElem?_take, if_pos (by omega)]; exact hy
      have hlen : (shL zs).length = n - 1 := by rw [shL_t hl h2 hz hy, List.length_set, List.length_take, hl]; omega
      rw [hlen, shL_t hl h2 hz hy]
      have HY := Lib.hid hty
      have HZ := Lib.hid hz
      clear h hl hz hy hty hcy hc hlen hzb
      go_enter Try.func57, Try.ntmps57
      go_wp2_with fail
      refine HC.out.mono ?_
      rintro e w1 ⟨⟨A', c', rfl, ho⟩, hb⟩
      obtain ⟨g, rfl, hg1, hg2⟩ := own_some ho (by omega)
      have hcz : w1.cell? (ad.add (n - 1)) = some (.int .i64 1) := by
        obtain ⟨ad', z', e, hz', _, _, hc'⟩ := (HW.out.below hb).at_ (k := n - 1) (by omega)
        injection e with e; subst e
        rw [HZ.out] at hz'; injection hz' with hz'; subst hz'; exact hc'
      have ht := own_truncI ho (n - 1) (by omega)
      have hcap' := own_cap ho
      have hcell := own_cellI ht HY.out
      have hfr := ht.frozenAt (n - 2)
      have HS := Lib.hid (own_setI ht (n - 2) (y + 1))
      clear ho ht HC
      go_wp2_with fail
      go_ret
      exact ⟨⟨_, _, rfl, HS.out⟩, hb.setCell (p := ⟨g, n - 2, none⟩) hg1 _⟩
    · have hne : (z == 1) = false := by rw [beq_eq_false_iff_ne]; exact hz1
      rw [shL_f (by rintro ⟨_, e⟩; rw [hl, hz] at e; injection e with e; exact hz1 e), hl]
      have HZ := Lib.hid hz
      clear h hl hz hz1 hzb hc
      go_enter Try.func57, Try.ntmps57
      go_wp2_with fail
      refine HC.out.mono ?_
      rintro e w1 ⟨⟨A', c', rfl, ho⟩, hb⟩
      have hcz : w1.cell? (ad.add (n - 1)) = some (.int .i64 z) := by
        obtain ⟨ad', z', e, hz', _, _, hc'⟩ := (HW.out.below hb).at_ (k := n - 1) (by omega)
        injection e with e; subst e
        rw [HZ.out] at hz'; injection hz' with hz'; subst hz'; exact hc'
      have HO := Lib.hid ho
      clear ho HC
      go_wp2_with fail
      go_ret
      exact ⟨⟨_, _, rfl, HO.out⟩, hb⟩
end Go.Proofs.Ytjkonkoiofhefaa
