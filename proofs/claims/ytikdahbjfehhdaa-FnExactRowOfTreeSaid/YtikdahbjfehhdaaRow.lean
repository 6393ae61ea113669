/-
  The rows of the Stern-Brocot tree: contracts of the program's and of the reference's function; the walk of the law FnExactRowOfTree.
  No condition but those of the law's own text.
-/
import Derived.Test.YtikdahbjfehhdaaProg
import Derived.Test.YtikdahbjfehhdaaMem
import Derived.Test.YtikdahbjfehhdaaBasic
import Derived.Test.YtikdahbjfehhdaaSig
import Derived.Test.YtikdahbjfehhdaaMarks
import Derived.Test.YtikdahbjfehhdaaFrac3
import Derived.Handy
import Derived.BigQuiet
import Derived.RegionTactic
import Derived.BigRegion
import Derived.Deep.QuietTactic
import Derived.Deep.RegionHeld3
import Derived.Deep.DrawnRows
import Derived.Deep.AppendLies
namespace Go.Proofs.Ytikdahbjfehhdaa
open Go.RowKit
set_option linter.unusedVariables false
attribute [local go_sem ↓] Go.wp_at_zero Go.wp_at_succ

theorem info_frac : (Try.prog.info? 26).map (fun i => (i.zero, i.size, i.bytes)) = some (some (.agg #[.int .i64 0, .int .i64 0]), 2, 16) := by kernel_rfl

/-- The fractions so many steps below two bounds. -/
def rowL : Nat → Int → Int → Int → Int → List (Int × Int)
  | 0, p, q, r, t => [(p + r, q + t)]
  | l + 1, p, q, r, t => rowL l p q (p + r) (q + t) ++ rowL l (p + r) (q + t) r t
theorem rowL_len : ∀ (l : Nat) (p q r t : Int), (rowL l p q r t).length = 2 ^ l
  | 0, _, _, _, _ => rfl
  | l + 1, p, q, r, t => by rw [rowL, List.length_append, rowL_len l, rowL_len l, Nat.pow_succ]; omega

theorem grown_new {a b c : World} {row row2 : Option Nat} (h : a.grownBy b row) (k : b.grownBy c row2) (h2 : row2 = row ∨ ∃ g, row2 = some g ∧ a.heap.size ≤ g) : a.grownBy c row :=
  ⟨k.os.trans h.os, k.tape.trans h.tape, k.output.trans h.output, Nat.le_trans h.size k.size, fun i hi hr => (k.block i (Nat.lt_of_lt_of_le hi h.size) (by
    rcases h2 with rfl | ⟨g, rfl, hg⟩
    · exact hr
    · intro e; cases e; omega)).trans (h.block i hi hr)⟩
theorem row_far {w w1 : World} {base : Nat} {v : Option Nat} {x y : Value} {t : TypeId} (hf : ∀ k, v = some k → base ≤ k ∧ k < w.heap.size) (hg : (w.alloc (.cells #[x, y] t)).grownBy w1 v) (k : Nat) : w1.cell? ⟨w.heap.size, k, none⟩ = (w.alloc (.cells #[x, y] t)).cell? ⟨w.heap.size, k, none⟩ :=
  hg.cell_far _ (by simp) (by intro e; have := hf _ e.symm; simp at this)
theorem row_far0 {w w1 : World} {base : Nat} {v : Option Nat} {x y : Value} {t : TypeId} (hf : ∀ k, v = some k → base ≤ k ∧ k < w.heap.size) (hg : (w.alloc (.cells #[x, y] t)).grownBy w1 v) : w1.cell? ⟨w.heap.size, 0, none⟩ = some x := by
  rw [row_far hf hg 0]; simp
theorem row_far1 {w w1 : World} {base : Nat} {v : Option Nat} {x y : Value} {t : TypeId} (hf : ∀ k, v = some k → base ≤ k ∧ k < w.heap.size) (hg : (w.alloc (.cells #[x, y] t)).grownBy w1 v) : w1.cell? ⟨w.heap.size, 1, none⟩ = some y := by
  rw [row_far hf hg 1]; simp

/-- What an append onto a row of the call's own leaves: the row, and that nothing else has turned. -/
def Rowed (base : Nat) (v : Value) (n : Nat) (zs : List (Int × Int)) (w : World) (e : Ending) (w' : World) : Prop :=
  ∃ A' c', e = .returned (.slice A' n c') ∧ w'.ownsRow base 26 2 (.slice A' n c') n (prs zs) ∧ w.grownBy w' v.ownBlock ∧
    ((Value.slice A' n c').ownBlock = v.ownBlock ∨ ∃ g, (Value.slice A' n c').ownBlock = some g ∧ w.heap.size ≤ g)

theorem bd_half {x y : Int} {l : Nat} (h1 : 0 ≤ x) (h2 : x * 2 ^ (l + 1) ≤ 1099511627776) (h3 : 0 ≤ y) (h4 : y * 2 ^ (l + 1) ≤ 1099511627776) : 0 ≤ x + y ∧ (x + y) * 2 ^ l ≤ 1099511627776 ∧ x * 2 ^ l ≤ 1099511627776 := by
  rw [Int.pow_succ, ← Int.mul_assoc] at h2 h4
  rw [Int.add_mul]
  have p : 0 ≤ x * 2 ^ l := Int.mul_nonneg h1 (Int.pow_nonneg (by omega))
  have p' : 0 ≤ y * 2 ^ l := Int.mul_nonneg h3 (Int.pow_nonneg (by omega))
  omega
theorem bd_le {x : Int} {l : Nat} (h1 : 0 ≤ x) (h2 : x * 2 ^ l ≤ 1099511627776) : x ≤ 1099511627776 := by
  have hp : (1 : Int) ≤ 2 ^ l := by have : (0 : Int) < 2 ^ l := Int.pow_pos (by omega); omega
  have := Int.mul_le_mul_of_nonneg_left hp h1
  omega

set_option maxHeartbeats 3200000 in
theorem row_any (l : Nat) (hl : l ≤ 10) : ∀ (A : Option Addr) (n cap base : Nat) (zs : List (Int × Int)) (p q r t : Int) (w : World), w.ownsRow base 26 2 (.slice A n cap) n (prs zs) → base ≤ w.heap.size → n + 2 ^ l ≤ 1099511627776 →
    0 ≤ p → p * 2 ^ l ≤ 1099511627776 → 0 ≤ q → q * 2 ^ l ≤ 1099511627776 → 0 ≤ r → r * 2 ^ l ≤ 1099511627776 → 0 ≤ t → t * 2 ^ l ≤ 1099511627776 →
    Calls Try.prog 65 #[.slice A n cap, .int .i64 p, .int .i64 q, .int .i64 r, .int .i64 t, .int .i64 (l : Nat)] w (Rowed base (.slice A n cap) (n + 2 ^ l) (zs ++ rowL l p q r t) w) := by
  induction l with
  | zero =>
    intro A n cap base zs p q r t w hown hbase hn p1 p2 q1 q2 r1 r2 t1 t2
    have p3 := bd_le p1 p2
    have q3 := bd_le q1 q2
    have r3 := bd_le r1 r2
    have t3 := bd_le t1 t2
    obtain ⟨i0, hi, hz0, hz1, hz2⟩ := info_parts info_frac
    have HO := Lib.hid hown
    have hn' : n + 1 ≤ 1099511627776 := by simpa using hn
    clear hown p2 q2 r2 t2 hn
    go_enter Try.func65, Try.ntmps65
    go_wp2_with (first | (at_builtin; refine wpList_append_lies _ rfl (.tmp 23) (.tmp 25) 41 rfl base 26 i0 (.agg #[.int .i64 0, .int .i64 0]) 2 16 Try.underlying41 hi hz0 hz1 hz2 rfl (by decide) _ n (prs zs) (by rfl) ((HO.out.alloc _).alloc _) ⟨w.heap.size + 1, 0, none⟩ 1 1 [.int .i64 (p + r), .int .i64 (q + t)] (by rfl) rfl ?cells (by simp [Value.oneCell']) (by decide) (by show n + 1 ≤ 9223372036854775807; omega) (by omega) (by simp; omega) (w.heap.size + 2) (by simp) ?_; rotate_left; intro g cap1 w1 hown hgrow hat hlt))
    case cells =>
      rintro (_ | _ | j) u hu
      · simpa [Addr.add] using hu
      · simpa [Addr.add] using hu
      · simp at hu
    go_ret
    refine ⟨_, _, rfl, by rw [rowL, prs_append]; exact hown, grown_new (grown_trans (World.grownBy_alloc w _ _) (World.grownBy_alloc _ _ _)) hgrow (Or.inl rfl), ?_⟩
    rcases hat with h | h
    · exact Or.inl (by rw [h]; rfl)
    · exact Or.inr ⟨g, rfl, by omega⟩
  | succ l ih =>
    intro A n cap base zs p q r t w hown hbase hn p1 p2 q1 q2 r1 r2 t1 t2
    obtain ⟨i0, hi, hz0, hz1, hz2⟩ := info_parts info_frac
    have hpw : 2 ^ (l + 1) = 2 ^ l + 2 ^ l := by rw [Nat.pow_succ]; omega
    have hpos : 0 < 2 ^ l := Nat.two_pow_pos l
    have p3 := bd_le p1 p2
    have q3 := bd_le q1 q2
    have r3 := bd_le r1 r2
    have t3 := bd_le t1 t2
    replace ih := ih (by omega)
    obtain ⟨a1, a2, a3⟩ := bd_half p1 p2 r1 r2
    obtain ⟨b1, b2, b3⟩ := bd_half q1 q2 t1 t2
    obtain ⟨_, _, a4⟩ := bd_half r1 r2 r1 r2
    obtain ⟨_, _, b4⟩ := bd_half t1 t2 t1 t2
    have hfar : ∀ k, (Value.slice A n cap).ownBlock = some k → base ≤ k ∧ k < w.heap.size := hown.lt
    have hp2 : n + 2 ^ (l + 1) = n + 2 ^ l + 2 ^ l := by omega
    obtain ⟨L, hL⟩ : ∃ L : Int, L = ((l + 1 : Nat) : Int) := ⟨_, rfl⟩
    have hL1 : ((l : Nat) : Int) = L - 1 := by omega
    have hLb : 0 < L := by omega
    have hLc : L ≤ 64 := by omega
    rw [← hL]
    rw [hL1] at ih
    have HC := Lib.hid (ih A n cap base zs p q (p + r) (q + t) (w.alloc (.cells #[.int .i64 (p + r), .int .i64 (q + t)] 26)) (hown.alloc _) (by simp; omega) (by omega) p1 a3 q1 b3 a1 a2 b1 b2)
    have HB := Lib.hid hfar
    have hn2 : n + 2 ^ l + 2 ^ l ≤ 1099511627776 := by omega
    have HD := Lib.hid (fun A' c' w' (h : World.ownsRow w' base 26 2 (.slice A' (n + 2 ^ l) c') (n + 2 ^ l) (prs (zs ++ rowL l p q (p + r) (q + t)))) (hb : base ≤ w'.heap.size) => ih A' (n + 2 ^ l) c' base (zs ++ rowL l p q (p + r) (q + t)) (p + r) (q + t) r t w' h hb hn2 a1 a2 b1 b2 r1 a4 t1 b4)
    clear hown hn hn2 p2 q2 r2 t2 a1 a2 a3 a4 b1 b2 b3 b4 hfar ih hL hL1 hpw hpos hi hz0 hz1 hz2
    generalize hx : p + r = x at *
    generalize hy : q + t = y at *
    go_enter Try.func65, Try.ntmps65
    go_wp2_with fail
    refine HC.out.mono ?_
    rintro e w1 ⟨A', c', rfl, hown1, hg1, hat1⟩
    have hc0 : w1.cell? ⟨w.heap.size, 0, none⟩ = some (.int .i64 x) := row_far0 HB.out hg1
    have hc1 : w1.cell? ⟨w.heap.size, 1, none⟩ = some (.int .i64 y) := row_far1 HB.out hg1
    have H2 := Lib.hid (HD.out A' c' w1 hown1 (Nat.le_trans (by simp; omega) hg1.size))
    have HG := Lib.hid hg1
    have HA := Lib.hid hat1
    have hq3 : w.heap.size < w1.heap.size := Nat.lt_of_lt_of_le (by simp) hg1.size
    clear hown1 hg1 hat1 HC HD
    go_wp2_with fail
    refine H2.out.mono ?_
    rintro e w2 ⟨A2, c2, rfl, hown2, hg2, hat2⟩
    go_wp2_with fail
    go_ret
    unfold Rowed
    rw [hp2, rowL, hx, hy, ← List.append_assoc]
    refine ⟨A2, c2, rfl, hown2, grown_new (grown_trans (World.grownBy_alloc w _ _) HG.out) hg2 ?_, ?_⟩
    · rcases HA.out with h | ⟨g, h, h'⟩
      · exact Or.inl h
      · exact Or.inr ⟨g, h, Nat.le_trans (by simp) h'⟩
    · rcases hat2 with h | ⟨g, h, h'⟩
      · rcases HA.out with h1 | ⟨g, h1, h'⟩
        · exact Or.inl (h.trans h1)
        · exact Or.inr ⟨g, h.trans h1, Nat.le_trans (by simp) h'⟩
      · exact Or.inr ⟨g, h, by omega⟩

/-- The result of a row of the tree. -/
def rotR (base : Nat) (l : Int) (e : Ending) (w : World) : Prop :=
  if inB l 0 10 = true then ∃ A c, e = .returned (.tuple #[.slice A (2 ^ l.toNat) c, .int .i64 0]) ∧ w.ownsRow base 26 2 (.slice A (2 ^ l.toNat) c) (2 ^ l.toNat) (prs (rowL l.toNat 0 1 1 0))
  else e = .returned (.tuple #[.slice none 0 0, .int .i64 2])

theorem rowed_below {v : Value} {n : Nat} {zs : List (Int × Int)} {w w' : World} {e : Ending} (h : Rowed w.heap.size v n zs w e w') (hv : v.ownBlock = none) : Below w.heap.size w w' := by
  obtain ⟨A, c, _, _, hg, _⟩ := h
  exact (Below.refl _ _).grown hg (Nat.le_refl _) (fun k hk => by rw [hv] at hk; cases hk)

theorem implRow_any (l : Int) (w : World) :
    Calls Try.prog 28 #[.int .i64 l] w fun e w' => rotR w.heap.size l e w' ∧ Below w.heap.size w w' := by
  cases hb : inB l 0 10
  · go_enter Try.func28, Try.ntmps28
    go_wp2_with fail
    refine (within_any l 0 10 _).mono ?_
    rintro e w' ⟨rfl, rfl⟩
    go_wp2_with fail
    go_ret2
    exact ⟨by unfold rotR; rw [if_neg (by simp [hb])]; rfl, Below.refl _ _⟩
  · have hr : 0 ≤ l ∧ l ≤ 10 := inB_iff.mp hb
    have hpw : 2 ^ l.toNat ≤ 1024 := Nat.pow_le_pow_right (n := 2) (by omega) (show l.toNat ≤ 10 by omega)
    have hpz : (2 : Int) ^ l.toNat ≤ 1024 := by have : ((2 ^ l.toNat : Nat) : Int) = (2 : Int) ^ l.toNat := by simp
                                                omega
    have hlt : ((l.toNat : Nat) : Int) = l := by omega
    have hc := row_any l.toNat (by omega) none 0 0 w.heap.size [] 0 1 1 0 w (World.ownsRow_nil ..) (Nat.le_refl _) (by omega) (by omega) (by omega) (by omega) (by omega) (by omega) (by omega) (by omega) (by omega)
    rw [hlt, Nat.zero_add, List.nil_append] at hc
    have HC := Lib.hid hc
    clear hpz hpw hc hlt hr
    go_enter Try.func28, Try.ntmps28
    go_wp2_with fail
    refine (within_any l 0 10 _).mono ?_
    rintro e w' ⟨rfl, rfl⟩
    rw [hb]
    go_wp2_with fail
    refine HC.out.mono ?_
    rintro e w1 h1
    have hb1 := rowed_below h1 rfl
    obtain ⟨A', c', rfl, hown1, hg1, hat1⟩ := h1
    have HO := Lib.hid hown1
    clear hown1 hg1 hat1 HC
    go_wp2_with fail
    go_ret2
    refine ⟨?_, hb1⟩
    unfold rotR
    rw [if_pos hb]
    exact ⟨A', c', rfl, HO.out⟩

/-! ### The reference: the paths' bits -/
/-- The bounds after so many steps by the bits of k, the highest first. -/
def bitW (k : Nat) : Nat → Int × Int × Int × Int → Int × Int × Int × Int
  | 0, b => b
  | i + 1, (p, q, r, t) => bitW k i (if k / 2 ^ i % 2 = 1 then (p + r, q + t, r, t) else (p, q, r + p, t + q))
def bitF (k l : Nat) (b : Int × Int × Int × Int) : Int × Int := ((bitW k l b).1 + (bitW k l b).2.2.1, (bitW k l b).2.1 + (bitW k l b).2.2.2)
theorem bitW_lo {k m : Nat} : ∀ (i : Nat) (b : Int × Int × Int × Int), i ≤ m → bitW (k + 2 ^ m) i b = bitW k i b
  | 0, _, _ => rfl
  | i + 1, (p, q, r, t), h => by
    rw [bitW, bitW, bitW_lo i _ (by omega)]
    have : (k + 2 ^ m) / 2 ^ i % 2 = k / 2 ^ i % 2 := by
      obtain ⟨d, rfl⟩ : ∃ d, m = i + 1 + d := ⟨m - (i + 1), by omega⟩
      rw [show 2 ^ (i + 1 + d) = 2 ^ i * (2 * 2 ^ d) by rw [Nat.pow_add, Nat.pow_succ, Nat.mul_assoc], Nat.add_mul_div_left _ _ (Nat.two_pow_pos i), Nat.add_mul_mod_self_left]
    rw [this]
theorem row_bits : ∀ (l : Nat) (p q r t : Int), rowL l p q r t = (List.range (2 ^ l)).map fun k => bitF k l (p, q, r, t)
  | 0, p, q, r, t => by simp [rowL, bitF, bitW]
  | l + 1, p, q, r, t => by
    rw [rowL, row_bits l, row_bits l, show 2 ^ (l + 1) = 2 ^ l + 2 ^ l by rw [Nat.pow_succ]; omega, List.range_add, List.map_append, List.map_map]
    congr 1
    · apply List.map_congr_left
      intro k hk
      have hk : k < 2 ^ l := List.mem_range.mp hk
      unfold bitF
      rw [bitW, if_neg (by rw [Nat.div_eq_of_lt hk]; decide)]
      simp only [Int.add_comm r p, Int.add_comm t q]
    · apply List.map_congr_left
      intro k hk
      have hk : k < 2 ^ l := List.mem_range.mp hk
      simp only [Function.comp]
      unfold bitF
      rw [Nat.add_comm (2 ^ l) k, bitW, bitW_lo l _ (Nat.le_refl _), if_pos (by rw [Nat.add_div_right _ (Nat.two_pow_pos l), Nat.div_eq_of_lt hk])]
end Go.Proofs.Ytikdahbjfehhdaa
