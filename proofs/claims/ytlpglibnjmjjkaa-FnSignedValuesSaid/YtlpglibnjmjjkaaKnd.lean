/-
  Expansions with signs: contracts of the program's and of the reference's functions; the walk of the law FnExactExpandSigned.
  No condition but those of the law's own text.
-/
import Derived.Test.YtlpglibnjmjjkaaProg
import Derived.Test.YtlpglibnjmjjkaaMem
import Derived.Test.YtlpglibnjmjjkaaBasic
import Derived.Test.YtlpglibnjmjjkaaAllk
import Derived.Test.YtlpglibnjmjjkaaInts
import Derived.Test.YtlpglibnjmjjkaaSig
import Derived.Test.YtlpglibnjmjjkaaFrac
import Derived.Test.YtlpglibnjmjjkaaFrac2
import Derived.Test.YtlpglibnjmjjkaaSgn
import Derived.Test.YtlpglibnjmjjkaaMarks
import Derived.Test.YtlpglibnjmjjkaaOwn
import Derived.Test.YtlpglibnjmjjkaaExp
import Derived.Handy
import Derived.BigQuiet
import Derived.Deep.QuietTactic
import Derived.Deep.AppendLies
namespace Go.Proofs.Ytlpglibnjmjjkaa
open Go.RowKit
set_option linter.unusedVariables false
set_option linter.unusedSimpArgs false
attribute [local go_sem ↓] Go.wp_at_zero Go.wp_at_succ

/-- The term of a quotient by a kind. -/
def trmK (kd a b : Int) : Int := if kd = 1 then (2 * a + b) / (2 * b) else if kd = 2 then 2 * ((a + b) / (2 * b)) else if kd = 3 then 2 * (a / (2 * b)) + 1 else -((-a) / b)
theorem ediv_spec (n : Int) {m : Int} (h : 0 < m) : m * (n / m) ≤ n ∧ n < m * (n / m) + m := by
  have e := Int.mul_ediv_add_emod n m
  have := Int.emod_nonneg n (show m ≠ 0 by omega)
  have := Int.emod_lt_of_pos n h
  omega
theorem trmK_left (kd a : Int) {b : Int} (h : 1 ≤ b) : -b ≤ a - trmK kd a b * b ∧ a - trmK kd a b * b ≤ b := by
  unfold trmK
  split
  · have := ediv_spec (2 * a + b) (show 0 < 2 * b by omega)
    generalize (2 * a + b) / (2 * b) = t at *
    rw [Int.mul_assoc, Int.mul_comm b t] at this
    omega
  · split
    · have := ediv_spec (a + b) (show 0 < 2 * b by omega)
      generalize (a + b) / (2 * b) = t at *
      rw [Int.mul_assoc, Int.mul_comm b t] at this
      rw [Int.mul_assoc]
      omega
    · split
      · have := ediv_spec a (show 0 < 2 * b by omega)
        generalize a / (2 * b) = t at *
        rw [Int.mul_assoc, Int.mul_comm b t] at this
        rw [Int.add_mul, Int.mul_assoc]
        omega
      · have := ediv_spec (-a) (show 0 < b by omega)
        generalize (-a) / b = t at *
        rw [Int.mul_comm b t] at this
        rw [Int.neg_mul]
        omega
theorem abs_le_mul {t b : Int} (h : 1 ≤ b) {n : Int} (h1 : -n ≤ t * b) (h2 : t * b ≤ n) (hn : 0 ≤ n) : -n ≤ t ∧ t ≤ n := by
  have e : (t * b).natAbs = t.natAbs * b.natAbs := Int.natAbs_mul t b
  have : t.natAbs * 1 ≤ t.natAbs * b.natAbs := Nat.mul_le_mul_left _ (by omega)
  omega
theorem trmK_bd (kd : Int) {a b : Int} (h : 1 ≤ b) (hb : b ≤ 1000000000) (h1 : -1000000000 ≤ a) (h2 : a ≤ 1000000000) :
    -2000000000 ≤ trmK kd a b * b ∧ trmK kd a b * b ≤ 2000000000 ∧ -2000000000 ≤ trmK kd a b ∧ trmK kd a b ≤ 2000000000 := by
  have h3 := trmK_left kd a h
  have := abs_le_mul (t := trmK kd a b) h (n := 2000000000) (by omega) (by omega) (by omega)
  omega
/-- The terms with signs, by so much fuel. -/
def sgI (l : Int) : Int := if l < 0 then -1 else if 0 < l then 1 else 0
def expK : Nat → Int → Int → Int → Int → Option (List (Int × Int))
  | 0, _, _, _, _ => none
  | f + 1, kd, s, a, b => if a - trmK kd a b * b = 0 then some [(s, trmK kd a b)] else (expK f kd (sgI (a - trmK kd a b * b)) b ((a - trmK kd a b * b).natAbs : Int)).map ((s, trmK kd a b) :: ·)
theorem expK_len : ∀ (f : Nat) (kd s a b : Int) (l : List (Int × Int)), expK f kd s a b = some l → l.length ≤ f ∧ 1 ≤ l.length
  | 0, _, _, _, _, _, h => by simp [expK] at h
  | f + 1, kd, s, a, b, l, h => by
    rw [expK] at h
    split at h
    · injection h with h; subst h; simp
    · cases hc : expK f kd (sgI (a - trmK kd a b * b)) b ((a - trmK kd a b * b).natAbs : Int) with
      | none => rw [hc] at h; cases h
      | some m =>
        rw [hc] at h
        injection h with h
        subst h
        have := expK_len f _ _ _ _ m hc
        simp; omega
/-- So many of the terms have been found. -/
def ExpAt (kd p q : Int) (j : Nat) (s a b : Int) (fs : List (Int × Int)) : Prop := expK 60 kd 1 p q = (expK (60 - j) kd s a b).map (fs ++ ·)
theorem ExpAt.start (kd p q : Int) : ExpAt kd p q 0 1 p q [] := by unfold ExpAt; simp
theorem ExpAt.step {kd p q : Int} {j : Nat} {s a b : Int} {fs : List (Int × Int)} (h : ExpAt kd p q j s a b fs) (hj : j < 60) (hl : a - trmK kd a b * b ≠ 0) :
    ExpAt kd p q (j + 1) (sgI (a - trmK kd a b * b)) b ((a - trmK kd a b * b).natAbs : Int) (fs ++ [(s, trmK kd a b)]) := by
  unfold ExpAt at *
  obtain ⟨f, hf⟩ : ∃ f, 60 - j = f + 1 := ⟨60 - j - 1, by omega⟩
  rw [h, hf, expK, if_neg hl, show 60 - (j + 1) = f by omega]
  cases expK f kd (sgI (a - trmK kd a b * b)) b ((a - trmK kd a b * b).natAbs : Int) <;> simp
theorem ExpAt.stop {kd p q : Int} {j : Nat} {s a b : Int} {fs : List (Int × Int)} (h : ExpAt kd p q j s a b fs) (hj : j < 60) (hl : a - trmK kd a b * b = 0) :
    expK 60 kd 1 p q = some (fs ++ [(s, trmK kd a b)]) := by
  unfold ExpAt at *
  obtain ⟨f, hf⟩ : ∃ f, 60 - j = f + 1 := ⟨60 - j - 1, by omega⟩
  rw [h, hf, expK, if_pos hl]; rfl
theorem ExpAt.full {kd p q : Int} {j : Nat} {s a b : Int} {fs : List (Int × Int)} (h : ExpAt kd p q j s a b fs) (hj : 60 ≤ j) : expK 60 kd 1 p q = none := by
  unfold ExpAt at *
  rw [h, show 60 - j = 0 by omega]; rfl

set_option maxRecDepth 100000 in
set_option maxHeartbeats 1600000 in
theorem termByKind_any (a b kd : Int) (w : World) (hk1 : 1 ≤ kd) (hk2 : kd ≤ 4) (h : 1 ≤ b) (hb : b ≤ 1000000000) (h1 : -1000000000 ≤ a) (h2 : a ≤ 1000000000) :
    Calls Try.prog 44 #[.int .i64 a, .int .i64 b, .int .i64 kd] w fun e w' => e = .returned (.int .i64 (trmK kd a b)) ∧ w = w' := by
  rcases (by omega : kd = 1 ∨ kd = 2 ∨ kd = 3 ∨ kd = 4) with rfl | rfl | rfl | rfl
  · have hd := trmK_bd 1 h hb h1 h2
    rw [show trmK 1 a b = (2 * a + b) / (2 * b) from by unfold trmK; rw [if_pos rfl]] at hd ⊢
    have HK := Lib.hid (fun w => floorDiv_any (2 * a + b) (2 * b) w (by omega) (by omega) (by omega) (by omega))
    generalize (2 * a + b) / (2 * b) = t at *
    go_enter Try.func44, Try.ntmps44
    go_wp2_with fail
    refine (HK.out _).mono ?_
    rintro e w' ⟨rfl, rfl⟩
    go_wp2_with fail
    go_ret
    exact ⟨rfl, rfl⟩
  · have hd := trmK_bd 2 h hb h1 h2
    rw [show trmK 2 a b = 2 * ((a + b) / (2 * b)) from by unfold trmK; rw [if_neg (by decide), if_pos rfl]] at hd ⊢
    have HK := Lib.hid (fun w => floorDiv_any (a + b) (2 * b) w (by omega) (by omega) (by omega) (by omega))
    generalize (a + b) / (2 * b) = t at *
    obtain ⟨_, _, d1, d2⟩ := hd
    go_enter Try.func44, Try.ntmps44
    go_wp2_with fail
    refine (HK.out _).mono ?_
    rintro e w' ⟨rfl, rfl⟩
    go_wp2_with fail
    go_ret
    exact ⟨rfl, rfl⟩
  · have hd := trmK_bd 3 h hb h1 h2
    rw [show trmK 3 a b = 2 * (a / (2 * b)) + 1 from by unfold trmK; rw [if_neg (by decide), if_neg (by decide), if_pos rfl]] at hd ⊢
    have HK := Lib.hid (fun w => floorDiv_any a (2 * b) w (by omega) (by omega) (by omega) (by omega))
    generalize a / (2 * b) = t at *
    obtain ⟨_, _, d1, d2⟩ := hd
    go_enter Try.func44, Try.ntmps44
    go_wp2_with fail
    refine (HK.out _).mono ?_
    rintro e w' ⟨rfl, rfl⟩
    go_wp2_with fail
    go_ret
    exact ⟨rfl, rfl⟩
  · have hd := trmK_bd 4 h hb h1 h2
    rw [show trmK 4 a b = -((-a) / b) from by unfold trmK; rw [if_neg (by decide), if_neg (by decide), if_neg (by decide)]] at hd ⊢
    have HK := Lib.hid (fun w => floorDiv_any (-a) b w (by omega) (by omega) (by omega) (by omega))
    generalize (-a) / b = t at *
    obtain ⟨_, _, d1, d2⟩ := hd
    go_enter Try.func44, Try.ntmps44
    go_wp2_with fail
    refine (HK.out _).mono ?_
    rintro e w' ⟨rfl, rfl⟩
    go_wp2_with fail
    go_ret
    exact ⟨rfl, rfl⟩
set_option maxRecDepth 100000 in
set_option maxHeartbeats 1600000 in
theorem l04Term_any (a b kd : Int) (w : World) (hk1 : 1 ≤ kd) (hk2 : kd ≤ 4) (h : 1 ≤ b) (hb : b ≤ 1000000000) (h1 : -1000000000 ≤ a) (h2 : a ≤ 1000000000) :
    Calls Try.prog 71 #[.int .i64 a, .int .i64 b, .int .i64 kd] w fun e w' => e = .returned (.int .i64 (trmK kd a b)) ∧ w = w' := by
  rcases (by omega : kd = 1 ∨ kd = 2 ∨ kd = 3 ∨ kd = 4) with rfl | rfl | rfl | rfl
  · have hd := trmK_bd 1 h hb h1 h2
    rw [show trmK 1 a b = (2 * a + b) / (2 * b) from by unfold trmK; rw [if_pos rfl]] at hd ⊢
    have HK := Lib.hid (fun w => l02Floor_any (2 * a + b) (2 * b) w (by omega) (by omega) (by omega) (by omega))
    generalize (2 * a + b) / (2 * b) = t at *
    go_enter Try.func71, Try.ntmps71
    go_wp2_with fail
    refine (HK.out _).mono ?_
    rintro e w' ⟨rfl, rfl⟩
    go_wp2_with fail
    go_ret
    exact ⟨rfl, rfl⟩
  · have hd := trmK_bd 2 h hb h1 h2
    rw [show trmK 2 a b = 2 * ((a + b) / (2 * b)) from by unfold trmK; rw [if_neg (by decide), if_pos rfl]] at hd ⊢
    have HK := Lib.hid (fun w => l02Floor_any (a + b) (2 * b) w (by omega) (by omega) (by omega) (by omega))
    generalize (a + b) / (2 * b) = t at *
    obtain ⟨_, _, d1, d2⟩ := hd
    go_enter Try.func71, Try.ntmps71
    go_wp2_with fail
    refine (HK.out _).mono ?_
    rintro e w' ⟨rfl, rfl⟩
    go_wp2_with fail
    go_ret
    exact ⟨rfl, rfl⟩
  · have hd := trmK_bd 3 h hb h1 h2
    rw [show trmK 3 a b = 2 * (a / (2 * b)) + 1 from by unfold trmK; rw [if_neg (by decide), if_neg (by decide), if_pos rfl]] at hd ⊢
    have HK := Lib.hid (fun w => l02Floor_any a (2 * b) w (by omega) (by omega) (by omega) (by omega))
    generalize a / (2 * b) = t at *
    obtain ⟨_, _, d1, d2⟩ := hd
    go_enter Try.func71, Try.ntmps71
    go_wp2_with fail
    refine (HK.out _).mono ?_
    rintro e w' ⟨rfl, rfl⟩
    go_wp2_with fail
    go_ret
    exact ⟨rfl, rfl⟩
  · have hd := trmK_bd 4 h hb h1 h2
    rw [show trmK 4 a b = -((-a) / b) from by unfold trmK; rw [if_neg (by decide), if_neg (by decide), if_neg (by decide)]] at hd ⊢
    have HK := Lib.hid (fun w => l02Floor_any (-a) b w (by omega) (by omega) (by omega) (by omega))
    generalize (-a) / b = t at *
    obtain ⟨_, _, d1, d2⟩ := hd
    go_enter Try.func71, Try.ntmps71
    go_wp2_with fail
    refine (HK.out _).mono ?_
    rintro e w' ⟨rfl, rfl⟩
    go_wp2_with fail
    go_ret
    exact ⟨rfl, rfl⟩
theorem sign_any (l : Int) (w : World) : Calls Try.prog 45 #[.int .i64 l] w fun e w' => e = .returned (.int .i64 (sgI l)) ∧ w = w' := by
  rcases (by omega : l < 0 ∨ 0 < l ∨ l = 0) with h | h | h
  · rw [show sgI l = -1 from if_pos h]
    go_enter Try.func45, Try.ntmps45
    go_wp2
    go_ret
    exact ⟨rfl, rfl⟩
  · rw [show sgI l = 1 from by unfold sgI; rw [if_neg (by omega), if_pos h]]
    have h' : ¬ l < 0 := by omega
    go_enter Try.func45, Try.ntmps45
    go_wp2
    go_ret
    exact ⟨rfl, rfl⟩
  · subst h
    rw [show sgI 0 = 0 from by decide]
    go_enter Try.func45, Try.ntmps45
    go_wp2
    go_ret
    exact ⟨rfl, rfl⟩
theorem isKind_any (kd : Int) (w : World) : Calls Try.prog 43 #[.int .i64 kd] w fun e w' => e = .returned (.bool (inB kd 1 4)) ∧ w = w' := by
  go_enter Try.func43, Try.ntmps43
  go_wp2_with fail
  refine (within_any kd 1 4 _).mono ?_
  rintro e w' ⟨rfl, rfl⟩
  go_wp2_with fail
  go_ret
  exact ⟨rfl, rfl⟩
theorem l04Kind_any (kd : Int) (w : World) : Calls Try.prog 70 #[.int .i64 kd] w fun e w' => e = .returned (.bool (inB kd 1 4)) ∧ w = w' := by
  go_enter Try.func70, Try.ntmps70
  go_wp2_with fail
  refine (l00In_any kd 1 4 _).mono ?_
  rintro e w' ⟨rfl, rfl⟩
  go_wp2_with fail
  go_ret
  exact ⟨rfl, rfl⟩

/-- The code of a fraction and a kind. -/
def evnB (p q kd : Int) : Bool := decide (kd = 2 ∧ p.tmod 2 ≠ 0 ∧ q % 2 ≠ 0)
def cdeK (p q kd : Int) : Int := if vfB p q = true then (if inB kd 1 4 = true then (if evnB p q kd = true then 6 else 0) else 2) else 1
/-- The terms with signs of a fraction by a kind, and a code. -/
def exsO (p q kd : Int) : Option (List (Int × Int)) := match expK 60 kd 1 p q with | some l => if sgnB l = true then some l else none | none => none
def exsL (p q kd : Int) : List (Int × Int) := if cdeK p q kd = 0 then (exsO p q kd).getD [] else []
def exsC (p q kd : Int) : Int := if cdeK p q kd = 0 then (if (exsO p q kd).isSome = true then 0 else 5) else cdeK p q kd
theorem exsO_in {p q kd : Int} {l : List (Int × Int)} (h : exsO p q kd = some l) : sgnB l = true ∧ l.length ≤ 60 := by
  unfold exsO at h
  cases he : expK 60 kd 1 p q with
  | none => rw [he] at h; cases h
  | some m =>
    rw [he] at h
    simp only at h
    split at h
    · rename_i hs
      injection h with h
      subst h
      exact ⟨hs, (expK_len 60 _ _ _ _ _ he).1⟩
    · cases h
theorem exsL_len (p q kd : Int) : (exsL p q kd).length ≤ 60 := by
  unfold exsL
  split
  · cases h : exsO p q kd with
    | none => simp
    | some l => exact (exsO_in h).2
  · simp
theorem exsL_rng (p q kd : Int) : ∀ z ∈ exsL p q kd, Rng z.1 ∧ Rng z.2 := by
  intro z hz
  unfold exsL at hz
  split at hz
  · cases h : exsO p q kd with
    | none => rw [h] at hz; cases hz
    | some l =>
      rw [h] at hz
      have := (sgn_in (exsO_in h).1).2.2 z hz
      unfold Rng; omega
  · cases hz
theorem exp_row {l : List (Int × Int)} {s t : Int} (h : ∀ z ∈ l, Rng z.1 ∧ Rng z.2) (hs : Rng s) (ht : Rng t) : ∀ z ∈ l ++ [(s, t)], Rng z.1 ∧ Rng z.2 := by
  intro z hz
  rw [List.mem_append] at hz
  rcases hz with hz | hz
  · exact h z hz
  · simp at hz; subst hz; exact ⟨hs, ht⟩
def slN : Value → Nat
  | .slice _ n _ => n
  | _ => 0
theorem cde_in {p q kd : Int} (h : cdeK p q kd = 0) : vfB p q = true ∧ inB kd 1 4 = true ∧ evnB p q kd = false := by
  unfold cdeK at h
  split at h
  · rename_i h1
    split at h
    · rename_i h2
      split at h
      · cases h
      · rename_i h3; exact ⟨h1, h2, eq_false_of_ne_true h3⟩
    · cases h
  · cases h
theorem exs_some {p q kd : Int} {l : List (Int × Int)} (h : expK 60 kd 1 p q = some l) : exsO p q kd = if sgnB l = true then some l else none := by unfold exsO; rw [h]
theorem exs_none {p q kd : Int} (h : expK 60 kd 1 p q = none) : exsO p q kd = none := by unfold exsO; rw [h]
theorem sgI_bd (l : Int) : -1 ≤ sgI l ∧ sgI l ≤ 1 := by unfold sgI; split <;> (try split) <;> omega

/-- The result of an expansion that may fail. -/
def ResX (base : Nat) (o : Option (List (Int × Int))) (e : Ending) (w : World) : Prop := ResS base (o.getD []) (if o.isSome = true then 0 else 5) e w
set_option maxRecDepth 100000 in
set_option maxHeartbeats 3200000 in
theorem implExs_core (p q kd : Int) (w : World) (h0 : cdeK p q kd = 0) :
    Calls Try.prog 20 #[.agg #[.int .i64 p, .int .i64 q], .int .i64 kd] w fun e w' => ResX w.heap.size (exsO p q kd) e w' ∧ Below w.heap.size w w' := by
  obtain ⟨hv, hk, he⟩ := cde_in h0
  obtain ⟨v1, v2, v3, v4, _⟩ := vfB_iff.1 hv
  obtain ⟨k1, k2⟩ := inB_iff.1 hk
  obtain ⟨i0, hi, hz0, hz1, hz2⟩ := info_parts infoS
  have hev : (kd = 2 → p.tmod 2 ≠ 0 → q % 2 = 0) := fun a b => Decidable.byContradiction fun c => by
    rw [show evnB p q kd = true from decide_eq_true ⟨a, b, c⟩] at he; cases he
  rcases (by by_cases a : kd = 2; (by_cases b : p.tmod 2 = 0; exact .inr (.inl ⟨a, b⟩); exact .inr (.inr ⟨a, b, hev a b⟩)); exact .inl a : kd ≠ 2 ∨ (kd = 2 ∧ p.tmod 2 = 0) ∨ (kd = 2 ∧ p.tmod 2 ≠ 0 ∧ q % 2 = 0)) with hA | ⟨hA, hB⟩ | ⟨hA, hB, hC⟩
  · (have g1 : (kd == 2) = false := by rw [beq_eq_false_iff_ne]; exact hA)
    skip
    have HV := Lib.hid hv
    have H0 := Lib.hid h0
    skip
    clear h0 he hev
    go_enter Try.func20, Try.ntmps20
    go_wp2_with fail
    refine (validFraction_any p q _).mono ?_
    rintro e w1 ⟨rfl, hb1⟩
    obtain ⟨hc1, hf1, hs1⟩ := keepc hb1
    have hB1 : Below w.heap.size w w1 := Below.trans (by go_grown) (hb1.mono (by first | exact Nat.le_refl _ | (simp only [World.size_alloc]; omega)))
    try simp only [World.size_alloc] at hs1
    have hl1_0 : w.heap.size < w1.heap.size := by omega
    go_wp2_with fail
    refine (isKind_any _ _).mono ?_
    rintro e w' ⟨rfl, rfl⟩
    rw [hk]
    go_wp2_with fail
    go_quiet (fail)
    go_wp2_with fail
    have hBq : Below w.heap.size w (w1.drewN nq) := hB1.trans (below_drewN _ _ _)
    generalize w1.drewN nq = wq at hBq ⊢
    clear hc1 hf1 hb1 hB1
    go_loopw [6, 7, 8, 9] (fun l u v s wr => ∃ (j : Nat) (sg a b : Int) (A : Option Addr) (c : Nat) (fs : List (Int × Int)), j ≤ 60 ∧ l = .slice A j c ∧ u = .int .i64 a ∧ v = .int .i64 b ∧ s = .int .i64 sg ∧ -1000000000 ≤ a ∧ a ≤ 1000000000 ∧ 1 ≤ b ∧ b ≤ 1000000000 ∧ -1 ≤ sg ∧ sg ≤ 1 ∧
      wr.ownsRow w.heap.size 51 2 (.slice A j c) j (prs fs) ∧ Hid (ExpAt kd p q j sg a b fs) ∧ Hid (∀ z ∈ fs, Rng z.1 ∧ Rng z.2) ∧ Below w.heap.size w wr) (fun l _ _ _ _ => 61 - slN l)
    case atStart => exact ⟨0, 1, p, q, none, 0, [], by omega, rfl, rfl, rfl, rfl, v3, v4, v1, v2, by omega, by omega, World.ownsRow_nil .., ExpAt.start _ _ _, (fun z hz => by cases hz), hBq⟩
    case round =>
      obtain ⟨j, sg, a, b, A, c, fs, hj, rfl, rfl, rfl, rfl, a1, a2, b1, b2, g3, g4, hown, HE, HG, hB⟩ := hrel
      have HO := Lib.hid hown
      have HF := Lib.hid hown.lt
      have hbase : w.heap.size ≤ wr.heap.size := hB.size
      obtain ⟨m1, m2, m3, m4⟩ := trmK_bd kd b1 b2 a1 a2
      obtain ⟨l1, l2⟩ := trmK_left kd a b1
      have HT := Lib.hid (fun (w : World) => termByKind_any a b kd w (by omega) (by omega) b1 b2 a1 a2)
      obtain ⟨t, ht⟩ : ∃ t, t = trmK kd a b := ⟨_, rfl⟩
      have HX := Lib.hid ht
      rw [← ht] at m1 m2 m3 m4 l1 l2 HT
      clear hown ht hBq
      by_cases hj60 : j < 60
      · have hjj : decide ((60 : Int) < (j : Int) + 1) = false := decide_eq_false (by omega)
        by_cases hl : a - t * b = 0
        · have hl0 : (a - t * b == 0) = true := by rw [beq_iff_eq]; exact hl
          have HL := Lib.hid hl
          clear hl
          have hrow := exp_row HG.out (s := sg) (t := t) (by unfold Rng; omega) (by unfold Rng; omega)
          have hfin := HE.out.stop hj60 (by rw [← HX.out]; exact HL.out)
          rw [← HX.out] at hfin
          have HFin := Lib.hid hfin
          have HRow := Lib.hid hrow
          clear hrow hfin
          go_wp2_with fail
          refine (HT.out _).mono ?_
          rintro e w' ⟨rfl, rfl⟩
          go_wp2_with (first | (at_builtin; refine wpList_append_lies _ rfl (.tmp 43) (.tmp 47) 24 rfl w.heap.size 51 i0 (.agg #[.int .i64 0, .int .i64 0]) 2 16 Try.underlying24 hi hz0 hz1 hz2 rfl (by decide) _ j (prs fs) (by rfl) (HO.out.alloc _) ⟨wr.heap.size, 0, none⟩ 1 1 [.int .i64 sg, .int .i64 t] (by rfl) rfl ?cells (by simp [Value.oneCell']) (by decide) (by show j + 1 ≤ 9223372036854775807; omega) (by omega) (by simp; omega) (wr.heap.size + 1) (by simp) ?_; rotate_left; intro g cap1 wn hown1 hgrow hat hlt1))
          case cells => exact fun j u hu => newcell (by simp) hu
          rw [show prs fs ++ [Value.int .i64 sg, .int .i64 t] = prs (fs ++ [(sg, t)]) from by rw [prs_append]; rfl] at hown1
          have hbn : Below w.heap.size w wn := (hB.alloc hbase _).grown hgrow (by simp; omega) (fun k hk => (HF.out k hk).1)
          have HS := Lib.hid hown1
          clear hown1 hgrow hat hB
          refine (validSigned_any _ (j + 1) cap1 (fs ++ [(sg, t)]) _ (PRow.of_own HS.out (by omega) HRow.out) (own_cap HS.out)).mono ?_
          rintro e wv ⟨rfl, hbv⟩
          have hO := Lib.hid (own_below HS.out hbv)
          have hbv2 := hbn.trans (hbv.mono hbn.size)
          have hlen := own_lenP HS.out
          clear hbv hbn
          cases hs : sgnB (fs ++ [(sg, t)])
          · have HQ := Lib.hid (show exsO p q kd = none from by rw [exs_some HFin.out, if_neg (by simp [hs])])
            clear hlen
            go_wp2_with fail
            go_ret2
            unfold ResX
            rw [HQ.out]
            exact ⟨⟨none, 0, rfl, World.ownsRow_nil ..⟩, hbv2⟩
          · have HQ := Lib.hid (show exsO p q kd = some (fs ++ [(sg, t)]) from by rw [exs_some HFin.out, if_pos hs])
            have HN := Lib.hid hlen
            clear hlen
            go_wp2_with fail
            go_ret2
            unfold ResX ResS
            rw [HQ.out]
            simp only [Option.getD_some, Option.isSome_some, HN.out]
            exact ⟨⟨_, _, rfl, hO.out⟩, hbv2⟩
        · have hl0 : (a - t * b == 0) = false := by rw [beq_eq_false_iff_ne]; exact hl
          have hsg := sgI_bd (a - t * b)
          have hlb : 1 ≤ ((a - t * b).natAbs : Int) := by omega
          have hlb2 : ((a - t * b).natAbs : Int) ≤ 1000000000 := by omega
          have hrow := exp_row HG.out (s := sg) (t := t) (by unfold Rng; omega) (by unfold Rng; omega)
          have hfin := HE.out.step hj60 (by rw [← HX.out]; exact hl)
          rw [← HX.out] at hfin
          have HFin := Lib.hid hfin
          have HRow := Lib.hid hrow
          have HSg := Lib.hid (fun w => sign_any (a - t * b) w)
          have HAb := Lib.hid (fun w => abs_any (a - t * b) w (by omega) (by omega))
          clear hrow hfin hl
          go_wp2_with fail
          refine (HT.out _).mono ?_
          rintro e w' ⟨rfl, rfl⟩
          go_wp2_with (first | (at_builtin; refine wpList_append_lies _ rfl (.tmp 43) (.tmp 47) 24 rfl w.heap.size 51 i0 (.agg #[.int .i64 0, .int .i64 0]) 2 16 Try.underlying24 hi hz0 hz1 hz2 rfl (by decide) _ j (prs fs) (by rfl) (HO.out.alloc _) ⟨wr.heap.size, 0, none⟩ 1 1 [.int .i64 sg, .int .i64 t] (by rfl) rfl ?cells (by simp [Value.oneCell']) (by decide) (by show j + 1 ≤ 9223372036854775807; omega) (by omega) (by simp; omega) (wr.heap.size + 1) (by simp) ?_; rotate_left; intro g cap1 wn hown1 hgrow hat hlt1))
          case cells => exact fun j u hu => newcell (by simp) hu
          rw [show prs fs ++ [Value.int .i64 sg, .int .i64 t] = prs (fs ++ [(sg, t)]) from by rw [prs_append]; rfl] at hown1
          have hbn : Below w.heap.size w wn := (hB.alloc hbase _).grown hgrow (by simp; omega) (fun k hk => (HF.out k hk).1)
          have HS := Lib.hid hown1
          clear hown1 hgrow hat hB
          refine (HSg.out _).mono ?_
          rintro e w' ⟨rfl, rfl⟩
          go_wp2_with fail
          refine (HAb.out _).mono ?_
          rintro e w' ⟨rfl, rfl⟩
          go_wp2_with fail
          go_roundw
          case rel => exact ⟨j + 1, _, _, _, _, _, fs ++ [(sg, t)], by omega, rfl, rfl, rfl, rfl, by omega, by omega, hlb, hlb2, hsg.1, hsg.2, HS.out, HFin.out, HRow.out, hbn⟩
          case measure => simp [slN]; omega
      · have hjj : decide ((60 : Int) < (j : Int) + 1) = true := decide_eq_true (by omega)
        have HFin := Lib.hid (exs_none (HE.out.full (by omega)))
        go_wp2_with fail
        refine (HT.out _).mono ?_
        rintro e w' ⟨rfl, rfl⟩
        go_wp2_with (first | (at_builtin; refine wpList_append_lies _ rfl (.tmp 43) (.tmp 47) 24 rfl w.heap.size 51 i0 (.agg #[.int .i64 0, .int .i64 0]) 2 16 Try.underlying24 hi hz0 hz1 hz2 rfl (by decide) _ j (prs fs) (by rfl) (HO.out.alloc _) ⟨wr.heap.size, 0, none⟩ 1 1 [.int .i64 sg, .int .i64 t] (by rfl) rfl ?cells (by simp [Value.oneCell']) (by decide) (by show j + 1 ≤ 9223372036854775807; omega) (by omega) (by simp; omega) (wr.heap.size + 1) (by simp) ?_; rotate_left; intro g cap1 wn hown1 hgrow hat hlt1))
        case cells => exact fun j u hu => newcell (by simp) hu
        have hbn : Below w.heap.size w wn := (hB.alloc hbase _).grown hgrow (by simp; omega) (fun k hk => (HF.out k hk).1)
        clear hown1 hgrow hat
        go_ret2
        unfold ResX
        rw [HFin.out]
        exact ⟨⟨none, 0, rfl, World.ownsRow_nil ..⟩, hbn⟩
  · (have g1 : (p.tmod 2 != 0) = false := by rw [bne_eq_false_iff_eq]; exact hB)
    skip
    have HV := Lib.hid hv
    have H0 := Lib.hid h0
    (clear hB; subst hA)
    clear h0 he hev
    go_enter Try.func20, Try.ntmps20
    go_wp2_with fail
    refine (validFraction_any p q _).mono ?_
    rintro e w1 ⟨rfl, hb1⟩
    obtain ⟨hc1, hf1, hs1⟩ := keepc hb1
    have hB1 : Below w.heap.size w w1 := Below.trans (by go_grown) (hb1.mono (by first | exact Nat.le_refl _ | (simp only [World.size_alloc]; omega)))
    try simp only [World.size_alloc] at hs1
    have hl1_0 : w.heap.size < w1.heap.size := by omega
    go_wp2_with fail
    refine (isKind_any _ _).mono ?_
    rintro e w' ⟨rfl, rfl⟩
    rw [hk]
    go_wp2_with fail
    go_quiet (fail)
    go_wp2_with fail
    have hBq : Below w.heap.size w (w1.drewN nq) := hB1.trans (below_drewN _ _ _)
    generalize w1.drewN nq = wq at hBq ⊢
    clear hc1 hf1 hb1 hB1
    go_loopw [6, 7, 8, 9] (fun l u v s wr => ∃ (j : Nat) (sg a b : Int) (A : Option Addr) (c : Nat) (fs : List (Int × Int)), j ≤ 60 ∧ l = .slice A j c ∧ u = .int .i64 a ∧ v = .int .i64 b ∧ s = .int .i64 sg ∧ -1000000000 ≤ a ∧ a ≤ 1000000000 ∧ 1 ≤ b ∧ b ≤ 1000000000 ∧ -1 ≤ sg ∧ sg ≤ 1 ∧
      wr.ownsRow w.heap.size 51 2 (.slice A j c) j (prs fs) ∧ Hid (ExpAt 2 p q j sg a b fs) ∧ Hid (∀ z ∈ fs, Rng z.1 ∧ Rng z.2) ∧ Below w.heap.size w wr) (fun l _ _ _ _ => 61 - slN l)
    case atStart => exact ⟨0, 1, p, q, none, 0, [], by omega, rfl, rfl, rfl, rfl, v3, v4, v1, v2, by omega, by omega, World.ownsRow_nil .., ExpAt.start _ _ _, (fun z hz => by cases hz), hBq⟩
    case round =>
      obtain ⟨j, sg, a, b, A, c, fs, hj, rfl, rfl, rfl, rfl, a1, a2, b1, b2, g3, g4, hown, HE, HG, hB⟩ := hrel
      have HO := Lib.hid hown
      have HF := Lib.hid hown.lt
      have hbase : w.heap.size ≤ wr.heap.size := hB.size
      obtain ⟨m1, m2, m3, m4⟩ := trmK_bd 2 b1 b2 a1 a2
      obtain ⟨l1, l2⟩ := trmK_left 2 a b1
      have HT := Lib.hid (fun (w : World) => termByKind_any a b 2 w (by omega) (by omega) b1 b2 a1 a2)
      obtain ⟨t, ht⟩ : ∃ t, t = trmK 2 a b := ⟨_, rfl⟩
      have HX := Lib.hid ht
      rw [← ht] at m1 m2 m3 m4 l1 l2 HT
      clear hown ht hBq
      by_cases hj60 : j < 60
      · have hjj : decide ((60 : Int) < (j : Int) + 1) = false := decide_eq_false (by omega)
        by_cases hl : a - t * b = 0
        · have hl0 : (a - t * b == 0) = true := by rw [beq_iff_eq]; exact hl
          have HL := Lib.hid hl
          clear hl
          have hrow := exp_row HG.out (s := sg) (t := t) (by unfold Rng; omega) (by unfold Rng; omega)
          have hfin := HE.out.stop hj60 (by rw [← HX.out]; exact HL.out)
          rw [← HX.out] at hfin
          have HFin := Lib.hid hfin
          have HRow := Lib.hid hrow
          clear hrow hfin
          go_wp2_with fail
          refine (HT.out _).mono ?_
          rintro e w' ⟨rfl, rfl⟩
          go_wp2_with (first | (at_builtin; refine wpList_append_lies _ rfl (.tmp 43) (.tmp 47) 24 rfl w.heap.size 51 i0 (.agg #[.int .i64 0, .int .i64 0]) 2 16 Try.underlying24 hi hz0 hz1 hz2 rfl (by decide) _ j (prs fs) (by rfl) (HO.out.alloc _) ⟨wr.heap.size, 0, none⟩ 1 1 [.int .i64 sg, .int .i64 t] (by rfl) rfl ?cells (by simp [Value.oneCell']) (by decide) (by show j + 1 ≤ 9223372036854775807; omega) (by omega) (by simp; omega) (wr.heap.size + 1) (by simp) ?_; rotate_left; intro g cap1 wn hown1 hgrow hat hlt1))
          case cells => exact fun j u hu => newcell (by simp) hu
          rw [show prs fs ++ [Value.int .i64 sg, .int .i64 t] = prs (fs ++ [(sg, t)]) from by rw [prs_append]; rfl] at hown1
          have hbn : Below w.heap.size w wn := (hB.alloc hbase _).grown hgrow (by simp; omega) (fun k hk => (HF.out k hk).1)
          have HS := Lib.hid hown1
          clear hown1 hgrow hat hB
          refine (validSigned_any _ (j + 1) cap1 (fs ++ [(sg, t)]) _ (PRow.of_own HS.out (by omega) HRow.out) (own_cap HS.out)).mono ?_
          rintro e wv ⟨rfl, hbv⟩
          have hO := Lib.hid (own_below HS.out hbv)
          have hbv2 := hbn.trans (hbv.mono hbn.size)
          have hlen := own_lenP HS.out
          clear hbv hbn
          cases hs : sgnB (fs ++ [(sg, t)])
          · have HQ := Lib.hid (show exsO p q 2 = none from by rw [exs_some HFin.out, if_neg (by simp [hs])])
            clear hlen
            go_wp2_with fail
            go_ret2
            unfold ResX
            rw [HQ.out]
            exact ⟨⟨none, 0, rfl, World.ownsRow_nil ..⟩, hbv2⟩
          · have HQ := Lib.hid (show exsO p q 2 = some (fs ++ [(sg, t)]) from by rw [exs_some HFin.out, if_pos hs])
            have HN := Lib.hid hlen
            clear hlen
            go_wp2_with fail
            go_ret2
            unfold ResX ResS
            rw [HQ.out]
            simp only [Option.getD_some, Option.isSome_some, HN.out]
            exact ⟨⟨_, _, rfl, hO.out⟩, hbv2⟩
        · have hl0 : (a - t * b == 0) = false := by rw [beq_eq_false_iff_ne]; exact hl
          have hsg := sgI_bd (a - t * b)
          have hlb : 1 ≤ ((a - t * b).natAbs : Int) := by omega
          have hlb2 : ((a - t * b).natAbs : Int) ≤ 1000000000 := by omega
          have hrow := exp_row HG.out (s := sg) (t := t) (by unfold Rng; omega) (by unfold Rng; omega)
          have hfin := HE.out.step hj60 (by rw [← HX.out]; exact hl)
          rw [← HX.out] at hfin
          have HFin := Lib.hid hfin
          have HRow := Lib.hid hrow
          have HSg := Lib.hid (fun w => sign_any (a - t * b) w)
          have HAb := Lib.hid (fun w => abs_any (a - t * b) w (by omega) (by omega))
          clear hrow hfin hl
          go_wp2_with fail
          refine (HT.out _).mono ?_
          rintro e w' ⟨rfl, rfl⟩
          go_wp2_with (first | (at_builtin; refine wpList_append_lies _ rfl (.tmp 43) (.tmp 47) 24 rfl w.heap.size 51 i0 (.agg #[.int .i64 0, .int .i64 0]) 2 16 Try.underlying24 hi hz0 hz1 hz2 rfl (by decide) _ j (prs fs) (by rfl) (HO.out.alloc _) ⟨wr.heap.size, 0, none⟩ 1 1 [.int .i64 sg, .int .i64 t] (by rfl) rfl ?cells (by simp [Value.oneCell']) (by decide) (by show j + 1 ≤ 9223372036854775807; omega) (by omega) (by simp; omega) (wr.heap.size + 1) (by simp) ?_; rotate_left; intro g cap1 wn hown1 hgrow hat hlt1))
          case cells => exact fun j u hu => newcell (by simp) hu
          rw [show prs fs ++ [Value.int .i64 sg, .int .i64 t] = prs (fs ++ [(sg, t)]) from by rw [prs_append]; rfl] at hown1
          have hbn : Below w.heap.size w wn := (hB.alloc hbase _).grown hgrow (by simp; omega) (fun k hk => (HF.out k hk).1)
          have HS := Lib.hid hown1
          clear hown1 hgrow hat hB
          refine (HSg.out _).mono ?_
          rintro e w' ⟨rfl, rfl⟩
          go_wp2_with fail
          refine (HAb.out _).mono ?_
          rintro e w' ⟨rfl, rfl⟩
          go_wp2_with fail
          go_roundw
          case rel => exact ⟨j + 1, _, _, _, _, _, fs ++ [(sg, t)], by omega, rfl, rfl, rfl, rfl, by omega, by omega, hlb, hlb2, hsg.1, hsg.2, HS.out, HFin.out, HRow.out, hbn⟩
          case measure => simp [slN]; omega
      · have hjj : decide ((60 : Int) < (j : Int) + 1) = true := decide_eq_true (by omega)
        have HFin := Lib.hid (exs_none (HE.out.full (by omega)))
        go_wp2_with fail
        refine (HT.out _).mono ?_
        rintro e w' ⟨rfl, rfl⟩
        go_wp2_with (first | (at_builtin; refine wpList_append_lies _ rfl (.tmp 43) (.tmp 47) 24 rfl w.heap.size 51 i0 (.agg #[.int .i64 0, .int .i64 0]) 2 16 Try.underlying24 hi hz0 hz1 hz2 rfl (by decide) _ j (prs fs) (by rfl) (HO.out.alloc _) ⟨wr.heap.size, 0, none⟩ 1 1 [.int .i64 sg, .int .i64 t] (by rfl) rfl ?cells (by simp [Value.oneCell']) (by decide) (by show j + 1 ≤ 9223372036854775807; omega) (by omega) (by simp; omega) (wr.heap.size + 1) (by simp) ?_; rotate_left; intro g cap1 wn hown1 hgrow hat hlt1))
        case cells => exact fun j u hu => newcell (by simp) hu
        have hbn : Below w.heap.size w wn := (hB.alloc hbase _).grown hgrow (by simp; omega) (fun k hk => (HF.out k hk).1)
        clear hown1 hgrow hat
        go_ret2
        unfold ResX
        rw [HFin.out]
        exact ⟨⟨none, 0, rfl, World.ownsRow_nil ..⟩, hbn⟩
  · (have g1 : (p.tmod 2 != 0) = true := by rw [bne_iff_ne]; exact hB)
    (have g2 : (q % 2 != 0) = false := by rw [bne_eq_false_iff_eq]; exact hC)
    have HV := Lib.hid hv
    have H0 := Lib.hid h0
    (clear hB hC; subst hA)
    clear h0 he hev
    go_enter Try.func20, Try.ntmps20
    go_wp2_with fail
    refine (validFraction_any p q _).mono ?_
    rintro e w1 ⟨rfl, hb1⟩
    obtain ⟨hc1, hf1, hs1⟩ := keepc hb1
    have hB1 : Below w.heap.size w w1 := Below.trans (by go_grown) (hb1.mono (by first | exact Nat.le_refl _ | (simp only [World.size_alloc]; omega)))
    try simp only [World.size_alloc] at hs1
    have hl1_0 : w.heap.size < w1.heap.size := by omega
    go_wp2_with fail
    refine (isKind_any _ _).mono ?_
    rintro e w' ⟨rfl, rfl⟩
    rw [hk]
    go_wp2_with fail
    go_quiet (fail)
    go_wp2_with fail
    have hBq : Below w.heap.size w (w1.drewN nq) := hB1.trans (below_drewN _ _ _)
    generalize w1.drewN nq = wq at hBq ⊢
    clear hc1 hf1 hb1 hB1
    go_loopw [6, 7, 8, 9] (fun l u v s wr => ∃ (j : Nat) (sg a b : Int) (A : Option Addr) (c : Nat) (fs : List (Int × Int)), j ≤ 60 ∧ l = .slice A j c ∧ u = .int .i64 a ∧ v = .int .i64 b ∧ s = .int .i64 sg ∧ -1000000000 ≤ a ∧ a ≤ 1000000000 ∧ 1 ≤ b ∧ b ≤ 1000000000 ∧ -1 ≤ sg ∧ sg ≤ 1 ∧
      wr.ownsRow w.heap.size 51 2 (.slice A j c) j (prs fs) ∧ Hid (ExpAt 2 p q j sg a b fs) ∧ Hid (∀ z ∈ fs, Rng z.1 ∧ Rng z.2) ∧ Below w.heap.size w wr) (fun l _ _ _ _ => 61 - slN l)
    case atStart => exact ⟨0, 1, p, q, none, 0, [], by omega, rfl, rfl, rfl, rfl, v3, v4, v1, v2, by omega, by omega, World.ownsRow_nil .., ExpAt.start _ _ _, (fun z hz => by cases hz), hBq⟩
    case round =>
      obtain ⟨j, sg, a, b, A, c, fs, hj, rfl, rfl, rfl, rfl, a1, a2, b1, b2, g3, g4, hown, HE, HG, hB⟩ := hrel
      have HO := Lib.hid hown
      have HF := Lib.hid hown.lt
      have hbase : w.heap.size ≤ wr.heap.size := hB.size
      obtain ⟨m1, m2, m3, m4⟩ := trmK_bd 2 b1 b2 a1 a2
      obtain ⟨l1, l2⟩ := trmK_left 2 a b1
      have HT := Lib.hid (fun (w : World) => termByKind_any a b 2 w (by omega) (by omega) b1 b2 a1 a2)
      obtain ⟨t, ht⟩ : ∃ t, t = trmK 2 a b := ⟨_, rfl⟩
      have HX := Lib.hid ht
      rw [← ht] at m1 m2 m3 m4 l1 l2 HT
      clear hown ht hBq
      by_cases hj60 : j < 60
      · have hjj : decide ((60 : Int) < (j : Int) + 1) = false := decide_eq_false (by omega)
        by_cases hl : a - t * b = 0
        · have hl0 : (a - t * b == 0) = true := by rw [beq_iff_eq]; exact hl
          have HL := Lib.hid hl
          clear hl
          have hrow := exp_row HG.out (s := sg) (t := t) (by unfold Rng; omega) (by unfold Rng; omega)
          have hfin := HE.out.stop hj60 (by rw [← HX.out]; exact HL.out)
          rw [← HX.out] at hfin
          have HFin := Lib.hid hfin
          have HRow := Lib.hid hrow
          clear hrow hfin
          go_wp2_with fail
          refine (HT.out _).mono ?_
          rintro e w' ⟨rfl, rfl⟩
          go_wp2_with (first | (at_builtin; refine wpList_append_lies _ rfl (.tmp 43) (.tmp 47) 24 rfl w.heap.size 51 i0 (.agg #[.int .i64 0, .int .i64 0]) 2 16 Try.underlying24 hi hz0 hz1 hz2 rfl (by decide) _ j (prs fs) (by rfl) (HO.out.alloc _) ⟨wr.heap.size, 0, none⟩ 1 1 [.int .i64 sg, .int .i64 t] (by rfl) rfl ?cells (by simp [Value.oneCell']) (by decide) (by show j + 1 ≤ 9223372036854775807; omega) (by omega) (by simp; omega) (wr.heap.size + 1) (by simp) ?_; rotate_left; intro g cap1 wn hown1 hgrow hat hlt1))
          case cells => exact fun j u hu => newcell (by simp) hu
          rw [show prs fs ++ [Value.int .i64 sg, .int .i64 t] = prs (fs ++ [(sg, t)]) from by rw [prs_append]; rfl] at hown1
          have hbn : Below w.heap.size w wn := (hB.alloc hbase _).grown hgrow (by simp; omega) (fun k hk => (HF.out k hk).1)
          have HS := Lib.hid hown1
          clear hown1 hgrow hat hB
          refine (validSigned_any _ (j + 1) cap1 (fs ++ [(sg, t)]) _ (PRow.of_own HS.out (by omega) HRow.out) (own_cap HS.out)).mono ?_
          rintro e wv ⟨rfl, hbv⟩
          have hO := Lib.hid (own_below HS.out hbv)
          have hbv2 := hbn.trans (hbv.mono hbn.size)
          have hlen := own_lenP HS.out
          clear hbv hbn
          cases hs : sgnB (fs ++ [(sg, t)])
          · have HQ := Lib.hid (show exsO p q 2 = none from by rw [exs_some HFin.out, if_neg (by simp [hs])])
            clear hlen
            go_wp2_with fail
            go_ret2
            unfold ResX
            rw [HQ.out]
            exact ⟨⟨none, 0, rfl, World.ownsRow_nil ..⟩, hbv2⟩
          · have HQ := Lib.hid (show exsO p q 2 = some (fs ++ [(sg, t)]) from by rw [exs_some HFin.out, if_pos hs])
            have HN := Lib.hid hlen
            clear hlen
            go_wp2_with fail
            go_ret2
            unfold ResX ResS
            rw [HQ.out]
            simp only [Option.getD_some, Option.isSome_some, HN.out]
            exact ⟨⟨_, _, rfl, hO.out⟩, hbv2⟩
        · have hl0 : (a - t * b == 0) = false := by rw [beq_eq_false_iff_ne]; exact hl
          have hsg := sgI_bd (a - t * b)
          have hlb : 1 ≤ ((a - t * b).natAbs : Int) := by omega
          have hlb2 : ((a - t * b).natAbs : Int) ≤ 1000000000 := by omega
          have hrow := exp_row HG.out (s := sg) (t := t) (by unfold Rng; omega) (by unfold Rng; omega)
          have hfin := HE.out.step hj60 (by rw [← HX.out]; exact hl)
          rw [← HX.out] at hfin
          have HFin := Lib.hid hfin
          have HRow := Lib.hid hrow
          have HSg := Lib.hid (fun w => sign_any (a - t * b) w)
          have HAb := Lib.hid (fun w => abs_any (a - t * b) w (by omega) (by omega))
          clear hrow hfin hl
          go_wp2_with fail
          refine (HT.out _).mono ?_
          rintro e w' ⟨rfl, rfl⟩
          go_wp2_with (first | (at_builtin; refine wpList_append_lies _ rfl (.tmp 43) (.tmp 47) 24 rfl w.heap.size 51 i0 (.agg #[.int .i64 0, .int .i64 0]) 2 16 Try.underlying24 hi hz0 hz1 hz2 rfl (by decide) _ j (prs fs) (by rfl) (HO.out.alloc _) ⟨wr.heap.size, 0, none⟩ 1 1 [.int .i64 sg, .int .i64 t] (by rfl) rfl ?cells (by simp [Value.oneCell']) (by decide) (by show j + 1 ≤ 9223372036854775807; omega) (by omega) (by simp; omega) (wr.heap.size + 1) (by simp) ?_; rotate_left; intro g cap1 wn hown1 hgrow hat hlt1))
          case cells => exact fun j u hu => newcell (by simp) hu
          rw [show prs fs ++ [Value.int .i64 sg, .int .i64 t] = prs (fs ++ [(sg, t)]) from by rw [prs_append]; rfl] at hown1
          have hbn : Below w.heap.size w wn := (hB.alloc hbase _).grown hgrow (by simp; omega) (fun k hk => (HF.out k hk).1)
          have HS := Lib.hid hown1
          clear hown1 hgrow hat hB
          refine (HSg.out _).mono ?_
          rintro e w' ⟨rfl, rfl⟩
          go_wp2_with fail
          refine (HAb.out _).mono ?_
          rintro e w' ⟨rfl, rfl⟩
          go_wp2_with fail
          go_roundw
          case rel => exact ⟨j + 1, _, _, _, _, _, fs ++ [(sg, t)], by omega, rfl, rfl, rfl, rfl, by omega, by omega, hlb, hlb2, hsg.1, hsg.2, HS.out, HFin.out, HRow.out, hbn⟩
          case measure => simp [slN]; omega
      · have hjj : decide ((60 : Int) < (j : Int) + 1) = true := decide_eq_true (by omega)
        have HFin := Lib.hid (exs_none (HE.out.full (by omega)))
        go_wp2_with fail
        refine (HT.out _).mono ?_
        rintro e w' ⟨rfl, rfl⟩
        go_wp2_with (first | (at_builtin; refine wpList_append_lies _ rfl (.tmp 43) (.tmp 47) 24 rfl w.heap.size 51 i0 (.agg #[.int .i64 0, .int .i64 0]) 2 16 Try.underlying24 hi hz0 hz1 hz2 rfl (by decide) _ j (prs fs) (by rfl) (HO.out.alloc _) ⟨wr.heap.size, 0, none⟩ 1 1 [.int .i64 sg, .int .i64 t] (by rfl) rfl ?cells (by simp [Value.oneCell']) (by decide) (by show j + 1 ≤ 9223372036854775807; omega) (by omega) (by simp; omega) (wr.heap.size + 1) (by simp) ?_; rotate_left; intro g cap1 wn hown1 hgrow hat hlt1))
        case cells => exact fun j u hu => newcell (by simp) hu
        have hbn : Below w.heap.size w wn := (hB.alloc hbase _).grown hgrow (by simp; omega) (fun k hk => (HF.out k hk).1)
        clear hown1 hgrow hat
        go_ret2
        unfold ResX
        rw [HFin.out]
        exact ⟨⟨none, 0, rfl, World.ownsRow_nil ..⟩, hbn⟩
theorem exs_zero {p q kd : Int} (h : cdeK p q kd = 0) : exsL p q kd = (exsO p q kd).getD [] ∧ exsC p q kd = if (exsO p q kd).isSome = true then 0 else 5 := ⟨if_pos h, if_pos h⟩
theorem exs_code {p q kd : Int} (h : cdeK p q kd ≠ 0) : exsL p q kd = [] ∧ exsC p q kd = cdeK p q kd := ⟨if_neg h, if_neg h⟩
set_option maxHeartbeats 800000 in
theorem implExs_any (p q kd : Int) (w : World) :
    Calls Try.prog 20 #[.agg #[.int .i64 p, .int .i64 q], .int .i64 kd] w fun e w' => ResS w.heap.size (exsL p q kd) (exsC p q kd) e w' ∧ Below w.heap.size w w' := by
  by_cases h0 : cdeK p q kd = 0
  · obtain ⟨e1, e2⟩ := exs_zero h0
    rw [e1, e2]
    exact implExs_core p q kd w h0
  · obtain ⟨e1, e2⟩ := exs_code h0
    rw [e1, e2]
    cases hv : vfB p q
    · rw [show cdeK p q kd = 1 from if_neg (by simp [hv])]
      clear h0 e1 e2
      go_enter Try.func20, Try.ntmps20
      go_wp2_with fail
      refine (validFraction_any p q _).mono ?_
      rintro e w1 ⟨rfl, hb1⟩
      obtain ⟨hc1, hf1, hs1⟩ := keepc hb1
      have hB1 : Below w.heap.size w w1 := Below.trans (by go_grown) (hb1.mono (by first | exact Nat.le_refl _ | (simp only [World.size_alloc]; omega)))
      try simp only [World.size_alloc] at hs1
      have hl1_0 : w.heap.size < w1.heap.size := by omega
      go_wp2_with fail
      go_ret2
      exact ⟨⟨none, 0, rfl, World.ownsRow_nil ..⟩, hB1⟩
    · cases hk : inB kd 1 4
      · rw [show cdeK p q kd = 2 from by unfold cdeK; rw [if_pos hv, if_neg (by simp [hk])]]
        clear h0 e1 e2
        go_enter Try.func20, Try.ntmps20
        go_wp2_with fail
        refine (validFraction_any p q _).mono ?_
        rintro e w1 ⟨rfl, hb1⟩
        obtain ⟨hc1, hf1, hs1⟩ := keepc hb1
        have hB1 : Below w.heap.size w w1 := Below.trans (by go_grown) (hb1.mono (by first | exact Nat.le_refl _ | (simp only [World.size_alloc]; omega)))
        try simp only [World.size_alloc] at hs1
        have hl1_0 : w.heap.size < w1.heap.size := by omega
        go_wp2_with fail
        refine (isKind_any kd _).mono ?_
        rintro e w' ⟨rfl, rfl⟩
        rw [hk]
        go_wp2_with fail
        go_ret2
        exact ⟨⟨none, 0, rfl, World.ownsRow_nil ..⟩, hB1⟩
      · cases he : evnB p q kd
        · exfalso
          apply h0
          unfold cdeK
          rw [if_pos hv, if_pos hk, if_neg (by simp [he])]
        · rw [show cdeK p q kd = 6 from by unfold cdeK; rw [if_pos hv, if_pos hk, if_pos he]]
          obtain ⟨rfl, hB, hC⟩ : kd = 2 ∧ p.tmod 2 ≠ 0 ∧ q % 2 ≠ 0 := by unfold evnB at he; exact of_decide_eq_true he
          have hv1 : 1 ≤ q := (vfB_iff.1 hv).1
          have g1 : (p.tmod 2 != 0) = true := by rw [bne_iff_ne]; exact hB
          have g2 : (q % 2 != 0) = true := by rw [bne_iff_ne]; exact hC
          clear h0 e1 e2 hB hC he
          go_enter Try.func20, Try.ntmps20
          go_wp2_with fail
          refine (validFraction_any p q _).mono ?_
          rintro e w1 ⟨rfl, hb1⟩
          obtain ⟨hc1, hf1, hs1⟩ := keepc hb1
          have hB1 : Below w.heap.size w w1 := Below.trans (by go_grown) (hb1.mono (by first | exact Nat.le_refl _ | (simp only [World.size_alloc]; omega)))
          try simp only [World.size_alloc] at hs1
          have hl1_0 : w.heap.size < w1.heap.size := by omega
          go_wp2_with fail
          refine (isKind_any 2 _).mono ?_
          rintro e w' ⟨rfl, rfl⟩
          rw [hk]
          go_wp2_with fail
          go_ret2
          exact ⟨⟨none, 0, rfl, World.ownsRow_nil ..⟩, hB1⟩
set_option maxHeartbeats 800000 in
theorem l04Code_any (p q kd : Int) (w : World) : Calls Try.prog 60 #[.agg #[.int .i64 p, .int .i64 q], .int .i64 kd] w fun e w' => e = .returned (.int .i64 (cdeK p q kd)) ∧ Below w.heap.size w w' := by
  cases hv : vfB p q
  · rw [show cdeK p q kd = 1 from if_neg (by simp [hv])]
    go_enter Try.func60, Try.ntmps60
    go_wp2_with fail
    refine (l02Ok_any p q _).mono ?_
    rintro e w1 ⟨rfl, hb1⟩
    obtain ⟨hc1, hf1, hs1⟩ := keepc hb1
    have hB1 : Below w.heap.size w w1 := Below.trans (by go_grown) (hb1.mono (by first | exact Nat.le_refl _ | (simp only [World.size_alloc]; omega)))
    try simp only [World.size_alloc] at hs1
    have hl1_0 : w.heap.size < w1.heap.size := by omega
    go_wp2_with fail
    go_ret
    exact ⟨rfl, hB1⟩
  · have hv1 : 1 ≤ q := (vfB_iff.1 hv).1
    cases hk : inB kd 1 4
    · rw [show cdeK p q kd = 2 from by unfold cdeK; rw [if_pos hv, if_neg (by simp [hk])]]
      go_enter Try.func60, Try.ntmps60
      go_wp2_with fail
      refine (l02Ok_any p q _).mono ?_
      rintro e w1 ⟨rfl, hb1⟩
      obtain ⟨hc1, hf1, hs1⟩ := keepc hb1
      have hB1 : Below w.heap.size w w1 := Below.trans (by go_grown) (hb1.mono (by first | exact Nat.le_refl _ | (simp only [World.size_alloc]; omega)))
      try simp only [World.size_alloc] at hs1
      have hl1_0 : w.heap.size < w1.heap.size := by omega
      go_wp2_with fail
      refine (l04Kind_any kd _).mono ?_
      rintro e w' ⟨rfl, rfl⟩
      rw [hk]
      go_wp2_with fail
      go_ret
      exact ⟨rfl, hB1⟩
    · by_cases hA : kd = 2
      · subst hA
        by_cases hB : p.tmod 2 = 0
        · rw [show cdeK p q 2 = 0 from by unfold cdeK; rw [if_pos hv, if_pos hk, if_neg (by unfold evnB; simp [hB])]]
          have g1 : (p.tmod 2 != 0) = false := by rw [bne_eq_false_iff_eq]; exact hB
          clear hB
          go_enter Try.func60, Try.ntmps60
          go_wp2_with fail
          refine (l02Ok_any p q _).mono ?_
          rintro e w1 ⟨rfl, hb1⟩
          obtain ⟨hc1, hf1, hs1⟩ := keepc hb1
          have hB1 : Below w.heap.size w w1 := Below.trans (by go_grown) (hb1.mono (by first | exact Nat.le_refl _ | (simp only [World.size_alloc]; omega)))
          try simp only [World.size_alloc] at hs1
          have hl1_0 : w.heap.size < w1.heap.size := by omega
          go_wp2_with fail
          refine (l04Kind_any 2 _).mono ?_
          rintro e w' ⟨rfl, rfl⟩
          rw [hk]
          go_wp2_with fail
          go_ret
          exact ⟨rfl, hB1⟩
        · have g1 : (p.tmod 2 != 0) = true := by rw [bne_iff_ne]; exact hB
          by_cases hC : q % 2 = 0
          · rw [show cdeK p q 2 = 0 from by unfold cdeK; rw [if_pos hv, if_pos hk, if_neg (by unfold evnB; simp [hC])]]
            have g2 : (q % 2 != 0) = false := by rw [bne_eq_false_iff_eq]; exact hC
            clear hB hC
            go_enter Try.func60, Try.ntmps60
            go_wp2_with fail
            refine (l02Ok_any p q _).mono ?_
            rintro e w1 ⟨rfl, hb1⟩
            obtain ⟨hc1, hf1, hs1⟩ := keepc hb1
            have hB1 : Below w.heap.size w w1 := Below.trans (by go_grown) (hb1.mono (by first | exact Nat.le_refl _ | (simp only [World.size_alloc]; omega)))
            try simp only [World.size_alloc] at hs1
            have hl1_0 : w.heap.size < w1.heap.size := by omega
            go_wp2_with fail
            refine (l04Kind_any 2 _).mono ?_
            rintro e w' ⟨rfl, rfl⟩
            rw [hk]
            go_wp2_with fail
            go_ret
            exact ⟨rfl, hB1⟩
          · rw [show cdeK p q 2 = 6 from by unfold cdeK; rw [if_pos hv, if_pos hk, if_pos (show evnB p q 2 = true from decide_eq_true ⟨rfl, hB, hC⟩)]]
            have g2 : (q % 2 != 0) = true := by rw [bne_iff_ne]; exact hC
            clear hB hC
            go_enter Try.func60, Try.ntmps60
            go_wp2_with fail
            refine (l02Ok_any p q _).mono ?_
            rintro e w1 ⟨rfl, hb1⟩
            obtain ⟨hc1, hf1, hs1⟩ := keepc hb1
            have hB1 : Below w.heap.size w w1 := Below.trans (by go_grown) (hb1.mono (by first | exact Nat.le_refl _ | (simp only [World.size_alloc]; omega)))
            try simp only [World.size_alloc] at hs1
            have hl1_0 : w.heap.size < w1.heap.size := by omega
            go_wp2_with fail
            refine (l04Kind_any 2 _).mono ?_
            rintro e w' ⟨rfl, rfl⟩
            rw [hk]
            go_wp2_with fail
            go_ret
            exact ⟨rfl, hB1⟩
      · rw [show cdeK p q kd = 0 from by unfold cdeK; rw [if_pos hv, if_pos hk, if_neg (by unfold evnB; simp [hA])]]
        have g1 : (kd == 2) = false := by rw [beq_eq_false_iff_ne]; exact hA
        go_enter Try.func60, Try.ntmps60
        go_wp2_with fail
        refine (l02Ok_any p q _).mono ?_
        rintro e w1 ⟨rfl, hb1⟩
        obtain ⟨hc1, hf1, hs1⟩ := keepc hb1
        have hB1 : Below w.heap.size w w1 := Below.trans (by go_grown) (hb1.mono (by first | exact Nat.le_refl _ | (simp only [World.size_alloc]; omega)))
        try simp only [World.size_alloc] at hs1
        have hl1_0 : w.heap.size < w1.heap.size := by omega
        go_wp2_with fail
        refine (l04Kind_any kd _).mono ?_
        rintro e w' ⟨rfl, rfl⟩
        rw [hk]
        go_wp2_with fail
        go_ret
        exact ⟨rfl, hB1⟩
/-- The result of the reference's expansion: a list, and whether it is one. -/
def ResY (base : Nat) (o : Option (List (Int × Int))) (e : Ending) (w : World) : Prop :=
  ∃ (zs : List (Int × Int)) (A : Option Addr) (c : Nat), e = .returned (.tuple #[.slice A zs.length c, .bool o.isSome]) ∧ w.ownsRow base 51 2 (.slice A zs.length c) zs.length (prs zs) ∧ (∀ l, o = some l → zs = l) ∧ (∀ z ∈ zs, Rng z.1 ∧ Rng z.2) ∧ zs.length ≤ 60
set_option maxRecDepth 100000 in
set_option maxHeartbeats 3200000 in
theorem l04Expand_any (p q kd : Int) (w : World) (h0 : cdeK p q kd = 0) :
    Calls Try.prog 61 #[.agg #[.int .i64 p, .int .i64 q], .int .i64 kd] w fun e w' => ResY w.heap.size (exsO p q kd) e w' ∧ Below w.heap.size w w' := by
  obtain ⟨hv, hk, he⟩ := cde_in h0
  obtain ⟨v1, v2, v3, v4, _⟩ := vfB_iff.1 hv
  obtain ⟨k1, k2⟩ := inB_iff.1 hk
  obtain ⟨i0, hi, hz0, hz1, hz2⟩ := info_parts infoS
  have hown0 : ((w.alloc (.cells #[.int .i64 p, .int .i64 q] 30)).alloc (.cells #[] 51)).ownsRow w.heap.size 51 2 (.slice (some ⟨w.heap.size + 1, 0, none⟩) 0 0) 0 (prs []) := by
    have := World.ownsRow_made (base := w.heap.size) (e := 51) (size := 2) (w.alloc (.cells #[.int .i64 p, .int .i64 q] 30)) #[] 0 (by simp) (by decide) rfl
    simpa [prs] using this
  have HO := Lib.hid hown0
  clear hown0 h0 he hv hk
  go_enter Try.func61, Try.ntmps61
  go_wp2_with fail
  have hBq : Below w.heap.size w ((w.alloc (.cells #[.int .i64 p, .int .i64 q] 30)).alloc (.cells #[] 51)) := by go_grown
  generalize (w.alloc (.cells #[.int .i64 p, .int .i64 q] 30)).alloc (.cells #[] 51) = wq at *
  go_loopw [6, 7, 8, 9] (fun l u v s wr => ∃ (j : Nat) (sg a b : Int) (A : Option Addr) (c : Nat) (fs : List (Int × Int)), j ≤ 60 ∧ l = .slice A j c ∧ u = .int .i64 a ∧ v = .int .i64 b ∧ s = .int .i64 sg ∧ -1000000000 ≤ a ∧ a ≤ 1000000000 ∧ 1 ≤ b ∧ b ≤ 1000000000 ∧ -1 ≤ sg ∧ sg ≤ 1 ∧
    wr.ownsRow w.heap.size 51 2 (.slice A j c) j (prs fs) ∧ Hid (ExpAt kd p q j sg a b fs) ∧ Hid (∀ z ∈ fs, Rng z.1 ∧ Rng z.2) ∧ Below w.heap.size w wr) (fun l _ _ _ _ => 61 - slN l)
  case atStart => exact ⟨0, 1, p, q, _, 0, [], by omega, rfl, rfl, rfl, rfl, v3, v4, v1, v2, by omega, by omega, HO.out, ExpAt.start _ _ _, (fun z hz => by cases hz), hBq⟩
  case round =>
    obtain ⟨j, sg, a, b, A, c, fs, hj, rfl, rfl, rfl, rfl, a1, a2, b1, b2, g3, g4, hown, HE, HG, hB⟩ := hrel
    clear HO hBq
    have HO := Lib.hid hown
    have HF := Lib.hid hown.lt
    have hbase : w.heap.size ≤ wr.heap.size := hB.size
    obtain ⟨m1, m2, m3, m4⟩ := trmK_bd kd b1 b2 a1 a2
    obtain ⟨l1, l2⟩ := trmK_left kd a b1
    have HT := Lib.hid (fun (w : World) => l04Term_any a b kd w (by omega) (by omega) b1 b2 a1 a2)
    obtain ⟨t, ht⟩ : ∃ t, t = trmK kd a b := ⟨_, rfl⟩
    have HX := Lib.hid ht
    rw [← ht] at m1 m2 m3 m4 l1 l2 HT
    clear hown ht
    by_cases hj60 : j < 60
    · have hjj : decide ((j : Int) < 60) = true := decide_eq_true (by omega)
      by_cases hl : a - t * b = 0
      · have hl0 : (a - t * b == 0) = true := by rw [beq_iff_eq]; exact hl
        have HL := Lib.hid hl
        clear hl
        have hrow := exp_row HG.out (s := sg) (t := t) (by unfold Rng; omega) (by unfold Rng; omega)
        have hfin := HE.out.stop hj60 (by rw [← HX.out]; exact HL.out)
        rw [← HX.out] at hfin
        have HFin := Lib.hid hfin
        have HRow := Lib.hid hrow
        clear hrow hfin
        go_wp2_with fail
        refine (HT.out _).mono ?_
        rintro e w' ⟨rfl, rfl⟩
        go_wp2_with (first | (at_builtin; refine wpList_append_lies _ rfl (.tmp 24) (.tmp 28) 24 rfl w.heap.size 51 i0 (.agg #[.int .i64 0, .int .i64 0]) 2 16 Try.underlying24 hi hz0 hz1 hz2 rfl (by decide) _ j (prs fs) (by rfl) (HO.out.alloc _) ⟨wr.heap.size, 0, none⟩ 1 1 [.int .i64 sg, .int .i64 t] (by rfl) rfl ?cells (by simp [Value.oneCell']) (by decide) (by show j + 1 ≤ 9223372036854775807; omega) (by omega) (by simp; omega) (wr.heap.size + 1) (by simp) ?_; rotate_left; intro g cap1 wn hown1 hgrow hat hlt1))
        case cells => exact fun j u hu => newcell (by simp) hu
        rw [show prs fs ++ [Value.int .i64 sg, .int .i64 t] = prs (fs ++ [(sg, t)]) from by rw [prs_append]; rfl] at hown1
        have hbn : Below w.heap.size w wn := (hB.alloc hbase _).grown hgrow (by simp; omega) (fun k hk => (HF.out k hk).1)
        have HS := Lib.hid hown1
        clear hown1 hgrow hat hB
        refine (l04Ok_any _ (j + 1) cap1 (fs ++ [(sg, t)]) _ (PRow.of_own HS.out (by omega) HRow.out)).mono ?_
        rintro e w' ⟨rfl, rfl⟩
        have hO := HS
        have hbv2 := hbn
        clear hbn
        have HN := Lib.hid (own_lenP HS.out)
        go_wp2_with fail
        go_ret2
        unfold ResY
        rw [exs_some HFin.out]
        refine ⟨⟨fs ++ [(sg, t)], _, _, ?_, by rw [HN.out]; exact hO.out, ?_, HRow.out, by rw [HN.out]; omega⟩, hbv2⟩
        · cases hs : sgnB (fs ++ [(sg, t)]) <;> simp only [HN.out] <;> rfl
        · intro l hl
          split at hl
          · injection hl
          · cases hl
      · have hl0 : (a - t * b == 0) = false := by rw [beq_eq_false_iff_ne]; exact hl
        have hlb : 1 ≤ ((a - t * b).natAbs : Int) := by omega
        have hlb2 : ((a - t * b).natAbs : Int) ≤ 1000000000 := by omega
        have hrow := exp_row HG.out (s := sg) (t := t) (by unfold Rng; omega) (by unfold Rng; omega)
        have hfin := HE.out.step hj60 (by rw [← HX.out]; exact hl)
        rw [← HX.out] at hfin
        have HRow := Lib.hid hrow
        have HAb := Lib.hid (fun w => l02Size_any (a - t * b) w (by omega) (by omega))
        rcases (by omega : a - t * b < 0 ∨ 0 < a - t * b) with hn | hn
        · rw [show sgI (a - t * b) = -1 from if_pos hn] at hfin
          have HFin := Lib.hid hfin
          clear hrow hfin hl
          go_wp2_with fail
          refine (HT.out _).mono ?_
          rintro e w' ⟨rfl, rfl⟩
          go_wp2_with (first | (at_builtin; refine wpList_append_lies _ rfl (.tmp 24) (.tmp 28) 24 rfl w.heap.size 51 i0 (.agg #[.int .i64 0, .int .i64 0]) 2 16 Try.underlying24 hi hz0 hz1 hz2 rfl (by decide) _ j (prs fs) (by rfl) (HO.out.alloc _) ⟨wr.heap.size, 0, none⟩ 1 1 [.int .i64 sg, .int .i64 t] (by rfl) rfl ?cells (by simp [Value.oneCell']) (by decide) (by show j + 1 ≤ 9223372036854775807; omega) (by omega) (by simp; omega) (wr.heap.size + 1) (by simp) ?_; rotate_left; intro g cap1 wn hown1 hgrow hat hlt1))
          case cells => exact fun j u hu => newcell (by simp) hu
          rw [show prs fs ++ [Value.int .i64 sg, .int .i64 t] = prs (fs ++ [(sg, t)]) from by rw [prs_append]; rfl] at hown1
          have hbn : Below w.heap.size w wn := (hB.alloc hbase _).grown hgrow (by simp; omega) (fun k hk => (HF.out k hk).1)
          have HS := Lib.hid hown1
          clear hown1 hgrow hat hB
          refine (HAb.out _).mono ?_
          rintro e w' ⟨rfl, rfl⟩
          go_wp2_with fail
          go_roundw
          case rel => exact ⟨j + 1, _, _, _, _, _, fs ++ [(sg, t)], by omega, rfl, rfl, rfl, rfl, by omega, by omega, hlb, hlb2, by omega, by omega, HS.out, HFin.out, HRow.out, hbn⟩
          case measure => simp [slN]; omega
        · rw [show sgI (a - t * b) = 1 from by unfold sgI; rw [if_neg (by omega), if_pos hn]] at hfin
          have HFin := Lib.hid hfin
          have hn' : decide (a - t * b < 0) = false := decide_eq_false (by omega)
          clear hrow hfin hl
          go_wp2_with fail
          refine (HT.out _).mono ?_
          rintro e w' ⟨rfl, rfl⟩
          go_wp2_with (first | (at_builtin; refine wpList_append_lies _ rfl (.tmp 24) (.tmp 28) 24 rfl w.heap.size 51 i0 (.agg #[.int .i64 0, .int .i64 0]) 2 16 Try.underlying24 hi hz0 hz1 hz2 rfl (by decide) _ j (prs fs) (by rfl) (HO.out.alloc _) ⟨wr.heap.size, 0, none⟩ 1 1 [.int .i64 sg, .int .i64 t] (by rfl) rfl ?cells (by simp [Value.oneCell']) (by decide) (by show j + 1 ≤ 9223372036854775807; omega) (by omega) (by simp; omega) (wr.heap.size + 1) (by simp) ?_; rotate_left; intro g cap1 wn hown1 hgrow hat hlt1))
          case cells => exact fun j u hu => newcell (by simp) hu
          rw [show prs fs ++ [Value.int .i64 sg, .int .i64 t] = prs (fs ++ [(sg, t)]) from by rw [prs_append]; rfl] at hown1
          have hbn : Below w.heap.size w wn := (hB.alloc hbase _).grown hgrow (by simp; omega) (fun k hk => (HF.out k hk).1)
          have HS := Lib.hid hown1
          clear hown1 hgrow hat hB
          refine (HAb.out _).mono ?_
          rintro e w' ⟨rfl, rfl⟩
          go_wp2_with fail
          go_roundw
          case rel => exact ⟨j + 1, _, _, _, _, _, fs ++ [(sg, t)], by omega, rfl, rfl, rfl, rfl, by omega, by omega, hlb, hlb2, by omega, by omega, HS.out, HFin.out, HRow.out, hbn⟩
          case measure => simp [slN]; omega
    · have hjj : decide ((j : Int) < 60) = false := decide_eq_false (by omega)
      have HFin := Lib.hid (exs_none (HE.out.full (by omega)))
      go_wp2_with fail
      go_ret2
      unfold ResY
      rw [HFin.out]
      exact ⟨⟨[], none, 0, rfl, World.ownsRow_nil .., (fun l hl => by cases hl), (fun z hz => by cases hz), by simp⟩, hB⟩
set_option maxHeartbeats 800000 in
theorem specExs_any (p q kd : Int) (w : World) :
    Calls Try.prog 36 #[.agg #[.int .i64 p, .int .i64 q], .int .i64 kd] w fun e w' => ResS w.heap.size (exsL p q kd) (exsC p q kd) e w' ∧ Below w.heap.size w w' := by
  have HC := Lib.hid (fun w => l04Code_any p q kd w)
  by_cases h0 : cdeK p q kd = 0
  · obtain ⟨e1, e2⟩ := exs_zero h0
    rw [e1, e2]
    have HE := Lib.hid (fun w => l04Expand_any p q kd w h0)
    rw [h0] at HC
    clear e1 e2
    cases ho : exsO p q kd with
    | none =>
      rw [ho] at HE
      clear h0 ho
      go_enter Try.func36, Try.ntmps36
      go_wp2_with fail
      refine (HC.out _).mono ?_
      rintro e w1 ⟨rfl, hb1⟩
      obtain ⟨hc1, hf1, hs1⟩ := keepc hb1
      have hB1 : Below w.heap.size w w1 := Below.trans (by go_grown) (hb1.mono (by first | exact Nat.le_refl _ | (simp only [World.size_alloc]; omega)))
      try simp only [World.size_alloc] at hs1
      have hl1_0 : w.heap.size < w1.heap.size := by omega
      go_wp2_with fail
      refine (HE.out _).mono ?_
      rintro e w2 ⟨⟨zs, A2, c2, rfl, ho2, hq, hr, hn⟩, hb2⟩
      obtain ⟨hc2, hf2, hs2⟩ := keepc hb2
      have hB2 : Below w.heap.size w w2 := hB1.trans (hb2.mono (by have := hB1.size; omega))
      have hl2_0 : w.heap.size < w2.heap.size := by omega
      clear ho2 hq hr
      go_wp2_with fail
      go_ret2
      exact ⟨⟨none, 0, rfl, World.ownsRow_nil ..⟩, hB2⟩
    | some l =>
      rw [ho] at HE
      simp only [Option.getD_some, Option.isSome_some, if_true]
      clear h0 ho
      go_enter Try.func36, Try.ntmps36
      go_wp2_with fail
      refine (HC.out _).mono ?_
      rintro e w1 ⟨rfl, hb1⟩
      obtain ⟨hc1, hf1, hs1⟩ := keepc hb1
      have hB1 : Below w.heap.size w w1 := Below.trans (by go_grown) (hb1.mono (by first | exact Nat.le_refl _ | (simp only [World.size_alloc]; omega)))
      try simp only [World.size_alloc] at hs1
      have hl1_0 : w.heap.size < w1.heap.size := by omega
      go_wp2_with fail
      refine (HE.out _).mono ?_
      rintro e w2 ⟨⟨zs, A2, c2, rfl, ho2, hq, hr, hn⟩, hb2⟩
      obtain ⟨hc2, hf2, hs2⟩ := keepc hb2
      have hB2 : Below w.heap.size w w2 := hB1.trans (hb2.mono (by have := hB1.size; omega))
      have hl2_0 : w.heap.size < w2.heap.size := by omega
      obtain rfl := hq l rfl
      have HO := Lib.hid ho2
      clear ho2 hq hr
      go_wp2_with fail
      go_ret2
      exact ⟨⟨_, _, rfl, own_base HO.out (by omega)⟩, hB2⟩
  · obtain ⟨e1, e2⟩ := exs_code h0
    rw [e1, e2]
    have hne : (cdeK p q kd != 0) = true := by rw [bne_iff_ne]; exact h0
    generalize cdeK p q kd = k at *
    clear e1 e2 h0
    go_enter Try.func36, Try.ntmps36
    go_wp2_with fail
    refine (HC.out _).mono ?_
    rintro e w1 ⟨rfl, hb1⟩
    obtain ⟨hc1, hf1, hs1⟩ := keepc hb1
    have hB1 : Below w.heap.size w w1 := Below.trans (by go_grown) (hb1.mono (by first | exact Nat.le_refl _ | (simp only [World.size_alloc]; omega)))
    try simp only [World.size_alloc] at hs1
    have hl1_0 : w.heap.size < w1.heap.size := by omega
    go_wp2_with fail
    go_ret2
    exact ⟨⟨none, 0, rfl, World.ownsRow_nil ..⟩, hB1⟩
end Go.Proofs.Ytlpglibnjmjjkaa
