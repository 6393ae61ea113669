/-
  The common beginning of two paths: plain laws; contracts of the program's and of the reference's functions.
  No condition but those of the law's own text.
-/
import Derived.Test.YtlpglibnjmjjkaaProg
import Derived.Test.YtlpglibnjmjjkaaMem
import Derived.Test.YtlpglibnjmjjkaaBasic
import Derived.Test.YtlpglibnjmjjkaaAllk
import Derived.Test.YtlpglibnjmjjkaaInts
import Derived.Test.YtlpglibnjmjjkaaFrac
import Derived.Test.YtlpglibnjmjjkaaFrac2
import Derived.Test.YtlpglibnjmjjkaaFrac3
import Derived.Test.YtlpglibnjmjjkaaOwn
import Derived.Test.YtlpglibnjmjjkaaShort
import Derived.Test.YtlpglibnjmjjkaaExp
import Derived.Test.YtlpglibnjmjjkaaPthM
import Derived.Test.YtlpglibnjmjjkaaCvg
import Derived.Test.YtlpglibnjmjjkaaPth
import Derived.Handy
import Derived.BigQuiet
import Derived.Deep.QuietTactic
import Derived.Deep.AppendLies
import Derived.Deep.RegionHeld3
namespace Go.Proofs.Ytlpglibnjmjjkaa
open Go.RowKit
set_option linter.unusedVariables false
set_option linter.unusedSimpArgs false
attribute [local go_sem ↓] Go.wp_at_zero Go.wp_at_succ

/-- Short terms are few. -/
theorem expN_log (k : Nat) : ∀ (a : Int) (b : Nat), b < 2 ^ k → (expN a b).length ≤ 2 * k := by
  induction k with
  | zero => intro a b h; rw [show b = 0 by simp at h; exact h, expN_zero]; simp
  | succ k ih =>
    intro a b h
    rw [Nat.pow_succ] at h
    rcases Nat.eq_zero_or_pos b with rfl | hb
    · rw [expN_zero]; simp
    · rw [expN_pos hb]
      have hm := mod_bd a hb
      rcases Nat.eq_zero_or_pos (a % (b : Int)).toNat with he | he
      · rw [he, expN_zero]; simp; omega
      · have hlt : (a % (b : Int)).toNat < b := by omega
        generalize (a % (b : Int)).toNat = m at *
        rw [expN_pos he]
        have hm2 := mod_bd (b : Int) he
        have hq := quo_mul (b : Int) he
        have hq1 : 1 ≤ (b : Int) / (m : Int) := by
          rcases Int.lt_or_le ((b : Int) / (m : Int)) 1 with hl | hl
          · exfalso
            have : (b : Int) / (m : Int) * m ≤ 0 * m := Int.mul_le_mul_of_nonneg_right (by omega) (by omega)
            omega
          · exact hl
        have hq2 : 1 * (m : Int) ≤ (b : Int) / (m : Int) * m := Int.mul_le_mul_of_nonneg_right hq1 (by omega)
        have := ih m ((b : Int) % (m : Int)).toNat (by omega)
        simp only [List.length_cons]
        omega
theorem expN_ge (b : Nat) : ∀ a : Int, 0 < b → ∀ (k : Nat) z, (expN a b)[k + 1]? = some z → 1 ≤ z := by
  induction b using Nat.strongRecOn with
  | ind b ih =>
    intro a h0 k z hz
    have hm := mod_bd a h0
    rw [expN_pos h0, List.getElem?_cons_succ] at hz
    rcases Nat.eq_zero_or_pos (a % (b : Int)).toNat with he | he
    · rw [he, expN_zero] at hz; cases hz
    · cases k with
      | succ k => exact ih _ (by omega) b he k z hz
      | zero =>
        rw [expN_pos he] at hz
        simp only [List.getElem?_cons_zero, Option.some.injEq] at hz
        subst hz
        have hq := quo_mul (b : Int) he
        have hm2 := mod_bd (b : Int) he
        rcases Int.lt_or_le ((b : Int) / ((a % (b : Int)).toNat : Int)) 1 with hl | hl
        · exfalso
          have : (b : Int) / ((a % (b : Int)).toNat : Int) * ((a % (b : Int)).toNat : Int) ≤ 0 * ((a % (b : Int)).toNat : Int) := Int.mul_le_mul_of_nonneg_right (by omega) (by omega)
          omega
        · exact hl

/-- Runs: few, none negative, only the first may be 0. -/
def PthOk (l : List Int) : Prop := l.length ≤ 60 ∧ (∀ z ∈ l, 0 ≤ z ∧ z ≤ 1000000000) ∧ ∀ (k : Nat) z, l[k + 1]? = some z → 1 ≤ z
theorem PthOk.nil : PthOk [] := ⟨by simp, fun z hz => by (cases hz), fun k z h => by cases h⟩
theorem pth_ok {p : Int} {d : Nat} (h1 : 1 ≤ p) (h2 : p ≤ 1000000000) (h3 : d ≤ 1000000000) (h4 : 0 < d) : PthOk (pthL p d) := by
  obtain ⟨m, hm⟩ : ∃ m, (expN p d).length = m + 1 := ⟨(expN p d).length - 1, by have := List.length_pos_iff.2 (expN_ne (a := p) h4); omega⟩
  obtain ⟨z, hz⟩ : ∃ z, (expN p d)[m]? = some z := ⟨_, List.getElem?_eq_getElem (by omega)⟩
  have hb := expN_rng d p (by omega) h2 h3
  have hl := expN_log 30 p d (by omega)
  have hmd := mod_bd p h4
  by_cases h1z : z = 1
  · subst h1z
    rw [(pthL_one h4 hm hz).2]
    exact PthOk.nil
  · have hhead : ∀ y, (expN p d)[0]? = some y → 0 ≤ y := by
      intro y hy
      rw [expN_pos h4] at hy
      simp at hy
      rw [← hy]
      exact Int.ediv_nonneg (by omega) (by omega)
    have hz1 : 1 ≤ z ∧ (1 ≤ m → 2 ≤ z) := by
      rw [expN_pos h4] at hm hz
      rcases Nat.eq_zero_or_pos (p % (d : Int)).toNat with he | he
      · rw [he, expN_zero] at hm hz
        simp at hm
        subst hm
        simp at hz
        have hq := quo_mul p h4
        refine ⟨?_, fun h => absurd h (by omega)⟩
        rw [← hz]
        rcases Int.lt_or_le (p / (d : Int)) 1 with hl | hl
        · exfalso
          have : p / (d : Int) * d ≤ 0 * d := Int.mul_le_mul_of_nonneg_right (by omega) (by omega)
          omega
        · exact hl
      · have hlast : (expN p d).getLast? = some z := by rw [List.getLast?_eq_getElem?, expN_pos h4, hm]; exact hz
        rw [expN_pos h4, List.getLast?_cons_of_ne_nil (expN_ne he)] at hlast
        have := expN_last _ d he (by omega) z hlast
        exact ⟨by omega, fun _ => this⟩
    have hge := expN_ge d p h4
    rw [pthL_set hm hz h1z]
    have hbz := hb z (List.mem_of_getElem? hz)
    refine ⟨by rw [List.length_set]; omega, fun y hy => ?_, fun k y hy => ?_⟩
    · rcases List.mem_or_eq_of_mem_set hy with h | h
      · obtain ⟨k, hk⟩ := List.mem_iff_getElem?.1 h
        have := hb y h
        cases k with
        | zero => have := hhead y hk; omega
        | succ k => have := hge k y hk; omega
      · subst h; omega
    · rw [List.getElem?_set] at hy
      split at hy
      · split at hy
        · injection hy with hy; have := hz1.2 (by omega); omega
        · cases hy
      · exact hge k y hy

/-- The common beginning of two paths. -/
def comR : List Int → List Int → List Int
  | x :: a, y :: b => if x = y then x :: comR a b else [min x y]
  | _, _ => []
theorem comR_nil (b : List Int) : comR [] b = [] := by cases b <;> rfl
theorem comR_nil' (a : List Int) : comR a [] = [] := by cases a <;> rfl
theorem comR_from : ∀ (a b : List Int) (k : Nat) z, (comR a b)[k]? = some z → a[k]? = some z ∨ b[k]? = some z
  | [], b, k, z, h => by rw [comR_nil] at h; cases h
  | x :: a, [], k, z, h => by rw [comR_nil'] at h; cases h
  | x :: a, y :: b, k, z, h => by
    rw [comR] at h
    split at h
    · cases k with
      | zero => exact .inl h
      | succ k => exact comR_from a b k z h
    · cases k with
      | zero =>
        simp at h
        rcases (by omega : z = x ∨ z = y) with e | e
        · left; rw [e]; rfl
        · right; rw [e]; rfl
      | succ k => cases h
theorem comR_ok {a b : List Int} (ha : PthOk a) (hb : PthOk b) : PthOk (comR a b) := by
  refine ⟨?_, fun z hz => ?_, fun k z hz => ?_⟩
  · have hh := comR_from a b
    rcases Nat.lt_or_ge 60 (comR a b).length with hl | hl
    · exfalso
      have h1 := ha.1
      have h2 := hb.1
      rcases hh 60 _ (List.getElem?_eq_getElem hl) with h | h
      · rw [List.getElem?_eq_none h1] at h; cases h
      · rw [List.getElem?_eq_none h2] at h; cases h
    · exact hl
  · obtain ⟨k, hk⟩ := List.mem_iff_getElem?.1 hz
    rcases comR_from a b k z hk with h | h
    · exact ha.2.1 z (List.mem_of_getElem? h)
    · exact hb.2.1 z (List.mem_of_getElem? h)
  · rcases comR_from a b (k + 1) z hz with h | h
    · exact ha.2.2 k z h
    · exact hb.2.2 k z h
/-- Without a 0 at the end. -/
def trmL (l : List Int) : List Int := if l.getLast? = some 0 then [] else l
def comL (a b : List Int) : List Int := trmL (comR a b)
theorem trm_ok {l : List Int} (h : PthOk l) : PthOk (trmL l) := by
  unfold trmL
  split
  · exact PthOk.nil
  · exact h
theorem trm_zero {l : List Int} {n : Nat} (h : PthOk l) (hl : l.length = n) (hn : 1 ≤ n) (hz : l[n - 1]? = some 0) : n = 1 ∧ l = [0] ∧ trmL l = [] := by
  have h1 : n = 1 := by
    rcases (by omega : n = 1 ∨ 2 ≤ n) with e | e
    · exact e
    · have := h.2.2 (n - 2) 0 (by rw [show n - 2 + 1 = n - 1 by omega]; exact hz)
      omega
  subst h1
  match l, hl with
  | [x], _ => simp at hz; subst hz; exact ⟨rfl, rfl, rfl⟩
theorem trm_keep {l : List Int} {n : Nat} {z : Int} (hl : l.length = n) (hz : l[n - 1]? = some z) (h : z ≠ 0) : trmL l = l := by
  unfold trmL
  rw [if_neg]
  rw [List.getLast?_eq_getElem?, hl, hz]
  intro e; injection e with e; exact h e
/-- So many of the common steps have been found. -/
def ComAt (a b : List Int) (k : Nat) (fs : List Int) : Prop := comR a b = fs ++ comR (a.drop k) (b.drop k)
theorem ComAt.start (a b : List Int) : ComAt a b 0 [] := rfl
theorem ComAt.step {a b : List Int} {k : Nat} {fs : List Int} {x : Int} (h : ComAt a b k fs) (ha : a[k]? = some x) (hb : b[k]? = some x) : ComAt a b (k + 1) (fs ++ [x]) := by
  unfold ComAt at *
  rw [h, drop_at ha, drop_at hb, comR, if_pos rfl]; simp
theorem ComAt.stop {a b : List Int} {k : Nat} {fs : List Int} {x y : Int} (h : ComAt a b k fs) (ha : a[k]? = some x) (hb : b[k]? = some y) (hne : x ≠ y) : comR a b = fs ++ [min x y] := by
  unfold ComAt at *
  rw [h, drop_at ha, drop_at hb, comR, if_neg hne]
theorem ComAt.done {a b : List Int} {k : Nat} {fs : List Int} (h : ComAt a b k fs) (hk : a.length ≤ k ∨ b.length ≤ k) : comR a b = fs := by
  unfold ComAt at *
  rcases hk with hk | hk
  · rw [h, List.drop_eq_nil_of_le hk, comR_nil, List.append_nil]
  · rw [h, List.drop_eq_nil_of_le hk, comR_nil', List.append_nil]

/-- A row one longer. -/
theorem com_ok {zs ys fs : List Int} {n : Nat} (h : PthOk (comR zs ys)) (e : comR zs ys = fs) (hl : fs.length = n) : PthOk fs ∧ comL zs ys = trmL fs := ⟨e ▸ h, by unfold comL; rw [e]⟩
theorem pth_row {w : World} {base e n c : Nat} {A : Option Addr} {fs : List Int} (h : w.ownsRow base e 1 (.slice A n c) n (fs.map (Value.int .i64))) (hok : PthOk fs) : IRow w A n fs :=
  IRow.of_own h (by have := own_lenI h; have := hok.1; omega) (fun z hz => by have := hok.2.1 z hz; unfold Rng; omega)
/-- The end of a common beginning. -/
theorem trm_own {w : World} {base n c : Nat} {A : Option Addr} {fs : List Int} (h : w.ownsRow base 2 1 (.slice A n c) n (fs.map (Value.int .i64))) : w.ownsRow base 2 1 (.slice A (trmL fs).length c) (trmL fs).length ((trmL fs).map (Value.int .i64)) := by
  have hl := own_lenI h
  unfold trmL
  split
  · exact own_truncI h 0 (Nat.zero_le _)
  · rw [hl]; exact h
theorem com_keep {w W : World} {a b : Addr} {x y : Value} (hx : w.cell? a = some x) (hy : w.cell? b = some y) (hb : Below w.heap.size w W) : W.cell? a = some x ∧ W.cell? b = some y ∧ Below w.heap.size w W :=
  ⟨(hb.cell (World.block_lt_of_cell? w a hx)).trans hx, (hb.cell (World.block_lt_of_cell? w b hy)).trans hy, hb⟩
end Go.Proofs.Ytlpglibnjmjjkaa
