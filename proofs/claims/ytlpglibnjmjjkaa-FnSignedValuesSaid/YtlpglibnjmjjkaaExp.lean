/-
  The short terms of a fraction: contracts of the program's and of the reference's functions; the walk of the law FnExactExpandFraction.
  No condition but those of the law's own text.
-/
import Derived.Test.YtlpglibnjmjjkaaProg
import Derived.Test.YtlpglibnjmjjkaaMem
import Derived.Test.YtlpglibnjmjjkaaBasic
import Derived.Test.YtlpglibnjmjjkaaFrac
import Derived.Test.YtlpglibnjmjjkaaFrac2
import Derived.Test.YtlpglibnjmjjkaaMarks
import Derived.Test.YtlpglibnjmjjkaaOwn
import Derived.Handy
import Derived.BigQuiet
import Derived.Deep.QuietTactic
import Derived.Deep.AppendLies
namespace Go.Proofs.Ytlpglibnjmjjkaa
open Go.RowKit
set_option linter.unusedVariables false
attribute [local go_sem ↓] Go.wp_at_zero Go.wp_at_succ

/-- The short terms of a quotient. -/
def expN (a : Int) (b : Nat) : List Int := if h : b = 0 then [] else (a / (b : Int)) :: expN b (a % (b : Int)).toNat
termination_by b
decreasing_by
  have := Int.emod_lt_of_pos a (show (0 : Int) < b by omega)
  have := Int.emod_nonneg a (show (b : Int) ≠ 0 by omega)
  omega
theorem expN_zero (a : Int) : expN a 0 = [] := by rw [expN]; simp
theorem expN_pos {a : Int} {b : Nat} (h : 0 < b) : expN a b = (a / (b : Int)) :: expN b (a % (b : Int)).toNat := by rw [expN]; simp [show b ≠ 0 by omega]
theorem mod_bd (a : Int) {b : Nat} (h : 0 < b) : 0 ≤ a % (b : Int) ∧ a % (b : Int) < b :=
  ⟨Int.emod_nonneg a (by omega), Int.emod_lt_of_pos a (by omega)⟩
theorem quo_bd (a : Int) {b : Nat} (h : 0 < b) (h1 : -1000000000 ≤ a) (h2 : a ≤ 1000000000) : -1000000000 ≤ a / (b : Int) ∧ a / (b : Int) ≤ 1000000000 := by
  have hb : (0 : Int) < b := by omega
  refine ⟨(Int.le_ediv_iff_mul_le hb).2 ?_, ?_⟩
  · have : (1000000000 : Int) * 1 ≤ 1000000000 * b := Int.mul_le_mul_of_nonneg_left (by omega) (by omega)
    omega
  · rcases Int.lt_or_le a 0 with h' | h'
    · have := Int.ediv_neg_of_neg_of_pos h' hb; omega
    · have := Int.ediv_le_self (b : Int) h'; omega
theorem quo_mul (a : Int) {b : Nat} (h : 0 < b) : a - a / (b : Int) * b = a % (b : Int) := by
  have := Int.mul_ediv_add_emod a b
  rw [Int.mul_comm] at this; omega
theorem expN_len (b : Nat) : ∀ a, (expN a b).length ≤ b := by
  induction b using Nat.strongRecOn with
  | ind b ih =>
    intro a
    rcases Nat.eq_zero_or_pos b with h | h
    · subst h; rw [expN_zero]; exact Nat.le_refl _
    · rw [expN_pos h, List.length_cons]
      have := mod_bd a h
      have := ih (a % (b : Int)).toNat (by omega) b
      omega
theorem expN_rng (b : Nat) : ∀ a, -1000000000 ≤ a → a ≤ 1000000000 → b ≤ 1000000000 → ∀ z ∈ expN a b, -1000000000 ≤ z ∧ z ≤ 1000000000 := by
  induction b using Nat.strongRecOn with
  | ind b ih =>
    intro a h1 h2 h3 z hz
    rcases Nat.eq_zero_or_pos b with h | h
    · subst h; rw [expN_zero] at hz; cases hz
    · rw [expN_pos h, List.mem_cons] at hz
      have hm := mod_bd a h
      rcases hz with rfl | hz
      · exact quo_bd a h h1 h2
      · exact ih _ (by omega) b (by omega) (by omega) (by omega) z hz

set_option maxRecDepth 100000 in
set_option maxHeartbeats 1600000 in
theorem expand_any (p : Int) (d : Nat) (w : World) (h1 : -1000000000 ≤ p) (h2 : p ≤ 1000000000) (h3 : d ≤ 1000000000) :
    Calls Try.prog 55 #[.int .i64 p, .int .i64 (d : Int)] w fun e w' => RetI w.heap.size (expN p d) e w' ∧ Below w.heap.size w w' := by
  obtain ⟨i0, hi, hz0, hz1, hz2⟩ := info_parts info_i64
  go_enter Try.func55, Try.ntmps55
  go_wp2_with fail
  go_loopw [0, 1, 5] (fun u v l wr => ∃ (x : Int) (y j : Nat) (A : Option Addr) (c : Nat) (zs : List Int), u = .int .i64 x ∧ v = .int .i64 (y : Int) ∧ l = .slice A j c ∧ -1000000000 ≤ x ∧ x ≤ 1000000000 ∧ y ≤ 1000000000 ∧ j + y ≤ 1000000000 ∧
    wr.ownsRow w.heap.size 2 1 (.slice A j c) j (zs.map (Value.int .i64)) ∧ Hid (zs ++ expN x y = expN p d) ∧ Below w.heap.size w wr) (fun _ v _ _ => (intOf v).toNat)
  case atStart => exact ⟨p, d, 0, none, 0, [], rfl, rfl, rfl, h1, h2, h3, by omega, World.ownsRow_nil .., rfl, Below.refl _ _⟩
  case round =>
    obtain ⟨x, y, j, A, c, zs, rfl, rfl, rfl, x1, x2, y2, jy, hown, HE, hB⟩ := hrel
    have HO := Lib.hid hown
    have HF := Lib.hid hown.lt
    have hbase : w.heap.size ≤ wr.heap.size := hB.size
    clear hown
    by_cases hy : y = 0
    · have hy' : (y : Int) ≤ 0 := by omega
      have HY := Lib.hid hy
      clear hy
      go_wp2_with fail
      go_ret
      have he : zs = expN p d := by have := HE.out; rw [HY.out, expN_zero, List.append_nil] at this; exact this
      have hl := own_lenI HO.out
      subst hl
      refine ⟨⟨A, c, by rw [← he]; rfl, by rw [← he]; exact HO.out⟩, hB⟩
    · have hy1 : 1 ≤ (y : Int) := by omega
      have hp : 0 < y := by omega
      obtain ⟨q0, q1⟩ := quo_bd x hp x1 x2
      have hm := mod_bd x hp
      have hq := quo_mul x hp
      have s0 : 0 ≤ x - x / (y : Int) * y := by omega
      have s1 : x - x / (y : Int) * y < y := by omega
      have m0 : -9223372036854775807 ≤ x / (y : Int) * y := by omega
      have m1 : x / (y : Int) * y ≤ 9223372036854775807 := by omega
      have HQ := Lib.hid hq
      have HP := Lib.hid hp
      have hbn : ((y : Int) != 0) = true := by rw [bne_iff_ne]; omega
      clear hq hp hm hy
      go_wp2_with fail
      refine (floorDiv_any x (y : Int) _ (by omega) (by omega) (by omega) (by omega)).mono ?_
      rintro e w' ⟨rfl, rfl⟩
      go_wp2_with (first | (at_builtin; refine wpList_append_lies _ rfl (.tmp 12) (.tmp 14) 33 rfl w.heap.size 2 i0 (.int .i64 0) 1 8 Try.underlying33 hi hz0 hz1 hz2 rfl (by decide) _ j (zs.map (Value.int .i64)) (by rfl) (HO.out.alloc _) ⟨wr.heap.size, 0, none⟩ 1 1 [.int .i64 (x / (y : Int))] (by rfl) rfl ?cells (by simp [Value.oneCell']) (by decide) (by show j + 1 ≤ 9223372036854775807; omega) (by omega) (by simp; omega) (wr.heap.size + 1) (by simp) ?_; rotate_left; intro g cap1 wn hown1 hgrow hat hlt1))
      case cells => exact fun j u hu => newcell (by simp) hu
      go_roundw
      case rel =>
        refine ⟨y, (x % (y : Int)).toNat, j + 1, _, _, zs ++ [x / (y : Int)], rfl, ?_, rfl, by omega, by omega, ?_, ?_, by rw [List.map_append]; exact hown1, ?_, (hB.alloc hbase _).grown hgrow (by simp; omega) (fun k hk => (HF.out k hk).1)⟩
        · have := HQ.out; rw [this, Int.toNat_of_nonneg (mod_bd x HP.out).1]
        · have := mod_bd x HP.out; omega
        · have := mod_bd x HP.out; omega
        · rw [List.append_assoc, List.singleton_append, ← expN_pos HP.out]; exact HE.out
      case measure => simp [intOf]; omega
set_option maxRecDepth 100000 in
set_option maxHeartbeats 1600000 in
theorem l03Terms_any (p : Int) (d : Nat) (w : World) (h1 : -1000000000 ≤ p) (h2 : p ≤ 1000000000) (h3 : d ≤ 1000000000) :
    Calls Try.prog 31 #[.agg #[.int .i64 p, .int .i64 (d : Int)]] w fun e w' => RetI w.heap.size (expN p d) e w' ∧ Below w.heap.size w w' := by
  obtain ⟨i0, hi, hz0, hz1, hz2⟩ := info_parts info_i64
  go_enter Try.func31, Try.ntmps31
  go_wp2_with fail
  have hown0 : ((w.alloc (.cells #[.int .i64 p, .int .i64 (d : Int)] 30)).alloc (.cells #[] 2)).ownsRow w.heap.size 2 1 (.slice (some ⟨w.heap.size + 1, 0, none⟩) 0 0) 0 (([] : List Int).map (Value.int .i64)) := by
    have := World.ownsRow_made (base := w.heap.size) (e := 2) (size := 1) (w.alloc (.cells #[.int .i64 p, .int .i64 (d : Int)] 30)) #[] 0 (by simp) (by decide) rfl
    simpa using this
  have HO := Lib.hid hown0
  clear hown0
  go_loopw [3, 4, 5] (fun l u v wr => ∃ (x : Int) (y j : Nat) (A : Option Addr) (c : Nat) (zs : List Int), u = .int .i64 x ∧ v = .int .i64 (y : Int) ∧ l = .slice A j c ∧ -1000000000 ≤ x ∧ x ≤ 1000000000 ∧ y ≤ 1000000000 ∧ j + y ≤ 1000000000 ∧
    wr.ownsRow w.heap.size 2 1 (.slice A j c) j (zs.map (Value.int .i64)) ∧ Hid (zs ++ expN x y = expN p d) ∧ Below w.heap.size w wr) (fun _ _ v _ => (intOf v).toNat)
  case atStart => exact ⟨p, d, 0, _, 0, [], rfl, rfl, rfl, h1, h2, h3, by omega, HO.out, rfl, ((Below.refl _ _).alloc (Nat.le_refl _) _).alloc (by simp) _⟩
  case round =>
    obtain ⟨x, y, j, A, c, zs, rfl, rfl, rfl, x1, x2, y2, jy, hown, HE, hB⟩ := hrel
    clear HO
    have HO := Lib.hid hown
    have HF := Lib.hid hown.lt
    have hbase : w.heap.size ≤ wr.heap.size := hB.size
    clear hown
    by_cases hy : y = 0
    · have hy' : (y : Int) ≤ 0 := by omega
      have HY := Lib.hid hy
      clear hy
      go_wp2_with fail
      go_ret
      have he : zs = expN p d := by have := HE.out; rw [HY.out, expN_zero, List.append_nil] at this; exact this
      have hl := own_lenI HO.out
      subst hl
      refine ⟨⟨A, c, by rw [← he]; rfl, by rw [← he]; exact HO.out⟩, hB⟩
    · have hy1 : 1 ≤ (y : Int) := by omega
      have hp : 0 < y := by omega
      obtain ⟨q0, q1⟩ := quo_bd x hp x1 x2
      have hm := mod_bd x hp
      have hq := quo_mul x hp
      have s0 : 0 ≤ x - x / (y : Int) * y := by omega
      have s1 : x - x / (y : Int) * y < y := by omega
      have m0 : -9223372036854775807 ≤ x / (y : Int) * y := by omega
      have m1 : x / (y : Int) * y ≤ 9223372036854775807 := by omega
      have HQ := Lib.hid hq
      have HP := Lib.hid hp
      have hbn : ((y : Int) != 0) = true := by rw [bne_iff_ne]; omega
      clear hq hp hm hy
      go_wp2_with fail
      refine (l02Floor_any x (y : Int) _ (by omega) (by omega) (by omega) (by omega)).mono ?_
      rintro e w' ⟨rfl, rfl⟩
      go_wp2_with (first | (at_builtin; refine wpList_append_lies _ rfl (.tmp 18) (.tmp 20) 33 rfl w.heap.size 2 i0 (.int .i64 0) 1 8 Try.underlying33 hi hz0 hz1 hz2 rfl (by decide) _ j (zs.map (Value.int .i64)) (by rfl) (HO.out.alloc _) ⟨wr.heap.size, 0, none⟩ 1 1 [.int .i64 (x / (y : Int))] (by rfl) rfl ?cells (by simp [Value.oneCell']) (by decide) (by show j + 1 ≤ 9223372036854775807; omega) (by omega) (by simp; omega) (wr.heap.size + 1) (by simp) ?_; rotate_left; intro g cap1 wn hown1 hgrow hat hlt1))
      case cells => exact fun j u hu => newcell (by simp) hu
      go_roundw
      case rel =>
        refine ⟨y, (x % (y : Int)).toNat, j + 1, _, _, zs ++ [x / (y : Int)], rfl, ?_, rfl, by omega, by omega, ?_, ?_, by rw [List.map_append]; exact hown1, ?_, (hB.alloc hbase _).grown hgrow (by simp; omega) (fun k hk => (HF.out k hk).1)⟩
        · have := HQ.out; rw [this, Int.toNat_of_nonneg (mod_bd x HP.out).1]
        · have := mod_bd x HP.out; omega
        · have := mod_bd x HP.out; omega
        · rw [List.append_assoc, List.singleton_append, ← expN_pos HP.out]; exact HE.out
      case measure => simp [intOf]; omega

/-- The short terms of a plain fraction, and the code. -/
def expL (p q : Int) : List Int := if vfB p q = true then expN p q.toNat else []
def expC (p q : Int) : Int := if vfB p q = true then 0 else 1
theorem expL_len (p q : Int) : (expL p q).length ≤ 1000000000 := by
  unfold expL
  split
  · rename_i h
    have := vfB_iff.1 h
    have := expN_len q.toNat p
    omega
  · exact Nat.zero_le _
theorem expL_rng (p q : Int) : ∀ z ∈ expL p q, Rng z := by
  intro z hz
  unfold expL at hz
  split at hz
  · rename_i h
    have := vfB_iff.1 h
    have := expN_rng q.toNat p (by omega) (by omega) (by omega) z hz
    unfold Rng; omega
  · cases hz

theorem implExpand_any (p q : Int) (w : World) :
    Calls Try.prog 29 #[.agg #[.int .i64 p, .int .i64 q]] w fun e w' => ResI w.heap.size (expL p q) (expC p q) e w' ∧ Below w.heap.size w w' := by
  cases hv : vfB p q
  · rw [show expL p q = [] from if_neg (by simp [hv]), show expC p q = 1 from if_neg (by simp [hv])]
    go_enter Try.func29, Try.ntmps29
    go_wp2_with fail
    refine (validFraction_any p q _).mono ?_
    rintro e w1 ⟨rfl, hb1⟩
    obtain ⟨hc1, hf1, hs1⟩ := keepc hb1
    have hB1 : Below w.heap.size w w1 := Below.trans (by go_grown) (hb1.mono (by first | exact Nat.le_refl _ | (simp only [World.size_alloc]; omega)))
    try simp only [World.size_alloc] at hs1
    have hl1_0 : w.heap.size < w1.heap.size := by omega
    go_wp2_with fail
    go_ret2
    exact ⟨⟨none, 0, rfl, World.ownsRow_nil ..⟩, hB1⟩
  · rw [show expL p q = expN p q.toNat from if_pos hv, show expC p q = 0 from if_pos hv]
    obtain ⟨v1, v2, v3, v4, _⟩ := vfB_iff.1 hv
    obtain ⟨d, rfl⟩ := Int.eq_ofNat_of_zero_le (show 0 ≤ q by omega)
    rw [Int.toNat_natCast]
    go_enter Try.func29, Try.ntmps29
    go_wp2_with fail
    refine (validFraction_any p d _).mono ?_
    rintro e w1 ⟨rfl, hb1⟩
    obtain ⟨hc1, hf1, hs1⟩ := keepc hb1
    have hB1 : Below w.heap.size w w1 := Below.trans (by go_grown) (hb1.mono (by first | exact Nat.le_refl _ | (simp only [World.size_alloc]; omega)))
    try simp only [World.size_alloc] at hs1
    have hl1_0 : w.heap.size < w1.heap.size := by omega
    go_wp2_with fail
    refine (expand_any p d _ v3 v4 (by omega)).mono ?_
    rintro e w2 ⟨⟨A2, c2, rfl, ho2⟩, hb2⟩
    obtain ⟨hc2, hf2, hs2⟩ := keepc hb2
    have hB2 : Below w.heap.size w w2 := hB1.trans (hb2.mono (by have := hB1.size; omega))
    have hl2_0 : w.heap.size < w2.heap.size := by omega
    have HO := Lib.hid ho2
    clear ho2
    go_wp2_with fail
    go_ret2
    exact ⟨⟨A2, c2, rfl, own_base HO.out (by omega)⟩, hB2⟩
end Go.Proofs.Ytlpglibnjmjjkaa
