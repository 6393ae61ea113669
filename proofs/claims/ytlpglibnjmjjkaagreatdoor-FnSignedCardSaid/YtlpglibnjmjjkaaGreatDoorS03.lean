/-
  Expansions with signs: contracts of the program's and of the reference's functions; the walk of the law FnExactExpandSigned.
  The reference's source of choices: contracts of its steps.
  Conditions: those of the law's own text, and that the package-level variables hold what the program's text lays in them.
-/
import Derived.Test.YtlpglibnjmjjkaaGreatDoorProg
import Derived.Test.YtlpglibnjmjjkaaGreatDoorS01
import Derived.Test.YtlpglibnjmjjkaaGreatDoorS02
import Derived.Handy
import Derived.BigQuiet
import Derived.Deep.QuietTactic
import Derived.Deep.AppendLies
import Derived.RegionTactic
import Derived.BigRegion
import Derived.Deep.RegionHeld3
import Derived.Deep.DrawnRows
namespace Go.Proofs.YtlpglibnjmjjkaaGreatDoor
open Go.RowKit
set_option linter.unusedVariables false
set_option linter.unusedSimpArgs false
attribute [local go_sem ↓] Go.wp_at_zero Go.wp_at_succ

/-- The term of a quotient by a kind. -/
def trmK (kd a b : Int) : Int := if kd = 1 then (2 * a + b) / (2 * b) else if kd = 2 then 2 * ((a + b) / (2 * b)) else if kd = 3 then 2 * (a / (2 * b)) + 1 else -((-a) / b)
theorem ediv_spec (n : Int) {m : Int} (h : 0 < m) : m * (n / m) ≤ n ∧ n < m * (n / m) + m := by
  have e := Int.mul_ediv_add_emod n m
  have := Int.emod_nonneg n (show m ≠ 0 by omega)
  have := Int.emod_lt_of_pos n h
  omega
theorem trmK_left (kd a : Int) {b : Int} (h : 1 ≤ b) : -b ≤ a - trmK kd a b * b ∧ a - trmK kd a b * b ≤ b := by
  unfold trmK
  split
  · have := ediv_spec (2 * a + b) (show 0 < 2 * b by omega)
    generalize (2 * a + b) / (2 * b) = t at *
    rw [Int.mul_assoc, Int.mul_comm b t] at this
    omega
  · split
    · have := ediv_spec (a + b) (show 0 < 2 * b by omega)
      generalize (a + b) / (2 * b) = t at *
      rw [Int.mul_assoc, Int.mul_comm b t] at this
      rw [Int.mul_assoc]
      omega
    · split
      · have := ediv_spec a (show 0 < 2 * b by omega)
        generalize a / (2 * b) = t at *
        rw [Int.mul_assoc, Int.mul_comm b t] at this
        rw [Int.add_mul, Int.mul_assoc]
        omega
      · have := ediv_spec (-a) (show 0 < b by omega)
        generalize (-a) / b = t at *
        rw [Int.mul_comm b t] at this
        rw [Int.neg_mul]
        omega
theorem abs_le_mul {t b : Int} (h : 1 ≤ b) {n : Int} (h1 : -n ≤ t * b) (h2 : t * b ≤ n) (hn : 0 ≤ n) : -n ≤ t ∧ t ≤ n := by
  have e : (t * b).natAbs = t.natAbs * b.natAbs := Int.natAbs_mul t b
  have : t.natAbs * 1 ≤ t.natAbs * b.natAbs := Nat.mul_le_mul_left _ (by omega)
  omega
theorem trmK_bd (kd : Int) {a b : Int} (h : 1 ≤ b) (hb : b ≤ 1000000000) (h1 : -1000000000 ≤ a) (h2 : a ≤ 1000000000) :
    -2000000000 ≤ trmK kd a b * b ∧ trmK kd a b * b ≤ 2000000000 ∧ -2000000000 ≤ trmK kd a b ∧ trmK kd a b ≤ 2000000000 := by
  have h3 := trmK_left kd a h
  have := abs_le_mul (t := trmK kd a b) h (n := 2000000000) (by omega) (by omega) (by omega)
  omega
/-- The terms with signs, by so much fuel. -/
def sgI (l : Int) : Int := if l < 0 then -1 else if 0 < l then 1 else 0
def expK : Nat → Int → Int → Int → Int → Option (List (Int × Int))
  | 0, _, _, _, _ => none
  | f + 1, kd, s, a, b => if a - trmK kd a b * b = 0 then some [(s, trmK kd a b)] else (expK f kd (sgI (a - trmK kd a b * b)) b ((a - trmK kd a b * b).natAbs : Int)).map ((s, trmK kd a b) :: ·)
theorem expK_len : ∀ (f : Nat) (kd s a b : Int) (l : List (Int × Int)), expK f kd s a b = some l → l.length ≤ f ∧ 1 ≤ l.length
  | 0, _, _, _, _, _, h => by simp [expK] at h
  | f + 1, kd, s, a, b, l, h => by
    rw [expK] at h
    split at h
    · injection h with h; subst h; simp
    · cases hc : expK f kd (sgI (a - trmK kd a b * b)) b ((a - trmK kd a b * b).natAbs : Int) with
      | none => rw [hc] at h; cases h
      | some m =>
        rw [hc] at h
        injection h with h
        subst h
        have := expK_len f _ _ _ _ m hc
        simp; omega
/-- So many of the terms have been found. -/
def ExpAt (kd p q : Int) (j : Nat) (s a b : Int) (fs : List (Int × Int)) : Prop := expK 60 kd 1 p q = (expK (60 - j) kd s a b).map (fs ++ ·)
theorem ExpAt.start (kd p q : Int) : ExpAt kd p q 0 1 p q [] := by unfold ExpAt; simp
theorem ExpAt.step {kd p q : Int} {j : Nat} {s a b : Int} {fs : List (Int × Int)} (h : ExpAt kd p q j s a b fs) (hj : j < 60) (hl : a - trmK kd a b * b ≠ 0) :
    ExpAt kd p q (j + 1) (sgI (a - trmK kd a b * b)) b ((a - trmK kd a b * b).natAbs : Int) (fs ++ [(s, trmK kd a b)]) := by
  unfold ExpAt at *
  obtain ⟨f, hf⟩ : ∃ f, 60 - j = f + 1 := ⟨60 - j - 1, by omega⟩
  rw [h, hf, expK, if_neg hl, show 60 - (j + 1) = f by omega]
  cases expK f kd (sgI (a - trmK kd a b * b)) b ((a - trmK kd a b * b).natAbs : Int) <;> simp
theorem ExpAt.stop {kd p q : Int} {j : Nat} {s a b : Int} {fs : List (Int × Int)} (h : ExpAt kd p q j s a b fs) (hj : j < 60) (hl : a - trmK kd a b * b = 0) :
    expK 60 kd 1 p q = some (fs ++ [(s, trmK kd a b)]) := by
  unfold ExpAt at *
  obtain ⟨f, hf⟩ : ∃ f, 60 - j = f + 1 := ⟨60 - j - 1, by omega⟩
  rw [h, hf, expK, if_pos hl]; rfl
theorem ExpAt.full {kd p q : Int} {j : Nat} {s a b : Int} {fs : List (Int × Int)} (h : ExpAt kd p q j s a b fs) (hj : 60 ≤ j) : expK 60 kd 1 p q = none := by
  unfold ExpAt at *
  rw [h, show 60 - j = 0 by omega]; rfl

set_option maxRecDepth 100000 in
set_option maxHeartbeats 1600000 in
theorem termByKind_any (a b kd : Int) (w : World) (hk1 : 1 ≤ kd) (hk2 : kd ≤ 4) (h : 1 ≤ b) (hb : b ≤ 1000000000) (h1 : -1000000000 ≤ a) (h2 : a ≤ 1000000000) :
    Calls Tryz.prog 59 #[.int .i64 a, .int .i64 b, .int .i64 kd] w fun e w' => e = .returned (.int .i64 (trmK kd a b)) ∧ w = w' := by
  rcases (by omega : kd = 1 ∨ kd = 2 ∨ kd = 3 ∨ kd = 4) with rfl | rfl | rfl | rfl
  · have hd := trmK_bd 1 h hb h1 h2
    rw [show trmK 1 a b = (2 * a + b) / (2 * b) from by unfold trmK; rw [if_pos rfl]] at hd ⊢
    have HK := Lib.hid (fun w => floorDiv_any (2 * a + b) (2 * b) w (by omega) (by omega) (by omega) (by omega))
    generalize (2 * a + b) / (2 * b) = t at *
    go_enter Tryz.func59, Tryz.ntmps59
    go_wp2_with fail
    refine (HK.out _).mono ?_
    rintro e w' ⟨rfl, rfl⟩
    go_wp2_with fail
    go_ret
    exact ⟨rfl, rfl⟩
  · have hd := trmK_bd 2 h hb h1 h2
    rw [show trmK 2 a b = 2 * ((a + b) / (2 * b)) from by unfold trmK; rw [if_neg (by decide), if_pos rfl]] at hd ⊢
    have HK := Lib.hid (fun w => floorDiv_any (a + b) (2 * b) w (by omega) (by omega) (by omega) (by omega))
    generalize (a + b) / (2 * b) = t at *
    obtain ⟨_, _, d1, d2⟩ := hd
    go_enter Tryz.func59, Tryz.ntmps59
    go_wp2_with fail
    refine (HK.out _).mono ?_
    rintro e w' ⟨rfl, rfl⟩
    go_wp2_with fail
    go_ret
    exact ⟨rfl, rfl⟩
  · have hd := trmK_bd 3 h hb h1 h2
    rw [show trmK 3 a b = 2 * (a / (2 * b)) + 1 from by unfold trmK; rw [if_neg (by decide), if_neg (by decide), if_pos rfl]] at hd ⊢
    have HK := Lib.hid (fun w => floorDiv_any a (2 * b) w (by omega) (by omega) (by omega) (by omega))
    generalize a / (2 * b) = t at *
    obtain ⟨_, _, d1, d2⟩ := hd
    go_enter Tryz.func59, Tryz.ntmps59
    go_wp2_with fail
    refine (HK.out _).mono ?_
    rintro e w' ⟨rfl, rfl⟩
    go_wp2_with fail
    go_ret
    exact ⟨rfl, rfl⟩
  · have hd := trmK_bd 4 h hb h1 h2
    rw [show trmK 4 a b = -((-a) / b) from by unfold trmK; rw [if_neg (by decide), if_neg (by decide), if_neg (by decide)]] at hd ⊢
    have HK := Lib.hid (fun w => floorDiv_any (-a) b w (by omega) (by omega) (by omega) (by omega))
    generalize (-a) / b = t at *
    obtain ⟨_, _, d1, d2⟩ := hd
    go_enter Tryz.func59, Tryz.ntmps59
    go_wp2_with fail
    refine (HK.out _).mono ?_
    rintro e w' ⟨rfl, rfl⟩
    go_wp2_with fail
    go_ret
    exact ⟨rfl, rfl⟩
set_option maxRecDepth 100000 in
set_option maxHeartbeats 1600000 in
theorem l04Term_any (a b kd : Int) (w : World) (hk1 : 1 ≤ kd) (hk2 : kd ≤ 4) (h : 1 ≤ b) (hb : b ≤ 1000000000) (h1 : -1000000000 ≤ a) (h2 : a ≤ 1000000000) :
    Calls Tryz.prog 104 #[.int .i64 a, .int .i64 b, .int .i64 kd] w fun e w' => e = .returned (.int .i64 (trmK kd a b)) ∧ w = w' := by
  rcases (by omega : kd = 1 ∨ kd = 2 ∨ kd = 3 ∨ kd = 4) with rfl | rfl | rfl | rfl
  · have hd := trmK_bd 1 h hb h1 h2
    rw [show trmK 1 a b = (2 * a + b) / (2 * b) from by unfold trmK; rw [if_pos rfl]] at hd ⊢
    have HK := Lib.hid (fun w => l02Floor_any (2 * a + b) (2 * b) w (by omega) (by omega) (by omega) (by omega))
    generalize (2 * a + b) / (2 * b) = t at *
    go_enter Tryz.func104, Tryz.ntmps104
    go_wp2_with fail
    refine (HK.out _).mono ?_
    rintro e w' ⟨rfl, rfl⟩
    go_wp2_with fail
    go_ret
    exact ⟨rfl, rfl⟩
  · have hd := trmK_bd 2 h hb h1 h2
    rw [show trmK 2 a b = 2 * ((a + b) / (2 * b)) from by unfold trmK; rw [if_neg (by decide), if_pos rfl]] at hd ⊢
    have HK := Lib.hid (fun w => l02Floor_any (a + b) (2 * b) w (by omega) (by omega) (by omega) (by omega))
    generalize (a + b) / (2 * b) = t at *
    obtain ⟨_, _, d1, d2⟩ := hd
    go_enter Tryz.func104, Tryz.ntmps104
    go_wp2_with fail
    refine (HK.out _).mono ?_
    rintro e w' ⟨rfl, rfl⟩
    go_wp2_with fail
    go_ret
    exact ⟨rfl, rfl⟩
  · have hd := trmK_bd 3 h hb h1 h2
    rw [show trmK 3 a b = 2 * (a / (2 * b)) + 1 from by unfold trmK; rw [if_neg (by decide), if_neg (by decide), if_pos rfl]] at hd ⊢
    have HK := Lib.hid (fun w => l02Floor_any a (2 * b) w (by omega) (by omega) (by omega) (by omega))
    generalize a / (2 * b) = t at *
    obtain ⟨_, _, d1, d2⟩ := hd
    go_enter Tryz.func104, Tryz.ntmps104
    go_wp2_with fail
    refine (HK.out _).mono ?_
    rintro e w' ⟨rfl, rfl⟩
    go_wp2_with fail
    go_ret
    exact ⟨rfl, rfl⟩
  · have hd := trmK_bd 4 h hb h1 h2
    rw [show trmK 4 a b = -((-a) / b) from by unfold trmK; rw [if_neg (by decide), if_neg (by decide), if_neg (by decide)]] at hd ⊢
    have HK := Lib.hid (fun w => l02Floor_any (-a) b w (by omega) (by omega) (by omega) (by omega))
    generalize (-a) / b = t at *
    obtain ⟨_, _, d1, d2⟩ := hd
    go_enter Tryz.func104, Tryz.ntmps104
    go_wp2_with fail
    refine (HK.out _).mono ?_
    rintro e w' ⟨rfl, rfl⟩
    go_wp2_with fail
    go_ret
    exact ⟨rfl, rfl⟩
theorem sign_any (l : Int) (w : World) : Calls Tryz.prog 60 #[.int .i64 l] w fun e w' => e = .returned (.int .i64 (sgI l)) ∧ w = w' := by
  rcases (by omega : l < 0 ∨ 0 < l ∨ l = 0) with h | h | h
  · rw [show sgI l = -1 from if_pos h]
    go_enter Tryz.func60, Tryz.ntmps60
    go_wp2
    go_ret
    exact ⟨rfl, rfl⟩
  · rw [show sgI l = 1 from by unfold sgI; rw [if_neg (by omega), if_pos h]]
    have h' : ¬ l < 0 := by omega
    go_enter Tryz.func60, Tryz.ntmps60
    go_wp2
    go_ret
    exact ⟨rfl, rfl⟩
  · subst h
    rw [show sgI 0 = 0 from by decide]
    go_enter Tryz.func60, Tryz.ntmps60
    go_wp2
    go_ret
    exact ⟨rfl, rfl⟩
theorem isKind_any (kd : Int) (w : World) : Calls Tryz.prog 58 #[.int .i64 kd] w fun e w' => e = .returned (.bool (inB kd 1 4)) ∧ w = w' := by
  go_enter Tryz.func58, Tryz.ntmps58
  go_wp2_with fail
  refine (within_any kd 1 4 _).mono ?_
  rintro e w' ⟨rfl, rfl⟩
  go_wp2_with fail
  go_ret
  exact ⟨rfl, rfl⟩
theorem l04Kind_any (kd : Int) (w : World) : Calls Tryz.prog 66 #[.int .i64 kd] w fun e w' => e = .returned (.bool (inB kd 1 4)) ∧ w = w' := by
  go_enter Tryz.func66, Tryz.ntmps66
  go_wp2_with fail
  refine (l00In_any kd 1 4 _).mono ?_
  rintro e w' ⟨rfl, rfl⟩
  go_wp2_with fail
  go_ret
  exact ⟨rfl, rfl⟩

/-- The code of a fraction and a kind. -/
def evnB (p q kd : Int) : Bool := decide (kd = 2 ∧ p.tmod 2 ≠ 0 ∧ q % 2 ≠ 0)
def cdeK (p q kd : Int) : Int := if vfB p q = true then (if inB kd 1 4 = true then (if evnB p q kd = true then 6 else 0) else 2) else 1
/-- The terms with signs of a fraction by a kind, and a code. -/
def exsO (p q kd : Int) : Option (List (Int × Int)) := match expK 60 kd 1 p q with | some l => if sgnB l = true then some l else none | none => none
def exsL (p q kd : Int) : List (Int × Int) := if cdeK p q kd = 0 then (exsO p q kd).getD [] else []
def exsC (p q kd : Int) : Int := if cdeK p q kd = 0 then (if (exsO p q kd).isSome = true then 0 else 5) else cdeK p q kd
theorem exsO_in {p q kd : Int} {l : List (Int × Int)} (h : exsO p q kd = some l) : sgnB l = true ∧ l.length ≤ 60 := by
  unfold exsO at h
  cases he : expK 60 kd 1 p q with
  | none => rw [he] at h; cases h
  | some m =>
    rw [he] at h
    simp only at h
    split at h
    · rename_i hs
      injection h with h
      subst h
      exact ⟨hs, (expK_len 60 _ _ _ _ _ he).1⟩
    · cases h
theorem exsL_len (p q kd : Int) : (exsL p q kd).length ≤ 60 := by
  unfold exsL
  split
  · cases h : exsO p q kd with
    | none => simp
    | some l => exact (exsO_in h).2
  · simp
theorem exsL_rng (p q kd : Int) : ∀ z ∈ exsL p q kd, Rng z.1 ∧ Rng z.2 := by
  intro z hz
  unfold exsL at hz
  split at hz
  · cases h : exsO p q kd with
    | none => rw [h] at hz; cases hz
    | some l =>
      rw [h] at hz
      have := (sgn_in (exsO_in h).1).2.2 z hz
      unfold Rng; omega
  · cases hz
theorem exp_row {l : List (Int × Int)} {s t : Int} (h : ∀ z ∈ l, Rng z.1 ∧ Rng z.2) (hs : Rng s) (ht : Rng t) : ∀ z ∈ l ++ [(s, t)], Rng z.1 ∧ Rng z.2 := by
  intro z hz
  rw [List.mem_append] at hz
  rcases hz with hz | hz
  · exact h z hz
  · simp at hz; subst hz; exact ⟨hs, ht⟩
def slN : Value → Nat
  | .slice _ n _ => n
  | _ => 0
theorem cde_in {p q kd : Int} (h : cdeK p q kd = 0) : vfB p q = true ∧ inB kd 1 4 = true ∧ evnB p q kd = false := by
  unfold cdeK at h
  split at h
  · rename_i h1
    split at h
    · rename_i h2
      split at h
      · cases h
      · rename_i h3; exact ⟨h1, h2, eq_false_of_ne_true h3⟩
    · cases h
  · cases h
theorem exs_some {p q kd : Int} {l : List (Int × Int)} (h : expK 60 kd 1 p q = some l) : exsO p q kd = if sgnB l = true then some l else none := by unfold exsO; rw [h]
theorem exs_none {p q kd : Int} (h : expK 60 kd 1 p q = none) : exsO p q kd = none := by unfold exsO; rw [h]
theorem sgI_bd (l : Int) : -1 ≤ sgI l ∧ sgI l ≤ 1 := by unfold sgI; split <;> (try split) <;> omega

/-- The result of an expansion that may fail. -/
def ResX (base : Nat) (o : Option (List (Int × Int))) (e : Ending) (w : World) : Prop := ResS base (o.getD []) (if o.isSome = true then 0 else 5) e w
set_option maxRecDepth 100000 in
set_option maxHeartbeats 3200000 in
theorem implExs_core (p q kd : Int) (w : World) (h0 : cdeK p q kd = 0) :
    Calls Tryz.prog 19 #[.agg #[.int .i64 p, .int .i64 q], .int .i64 kd] w fun e w' => ResX w.heap.size (exsO p q kd) e w' ∧ Below w.heap.size w w' := by
  obtain ⟨hv, hk, he⟩ := cde_in h0
  obtain ⟨v1, v2, v3, v4, _⟩ := vfB_iff.1 hv
  obtain ⟨k1, k2⟩ := inB_iff.1 hk
  obtain ⟨i0, hi, hz0, hz1, hz2⟩ := info_parts infoS
  have hev : (kd = 2 → p.tmod 2 ≠ 0 → q % 2 = 0) := fun a b => Decidable.byContradiction fun c => by
    rw [show evnB p q kd = true from decide_eq_true ⟨a, b, c⟩] at he; cases he
  rcases (by by_cases a : kd = 2; (by_cases b : p.tmod 2 = 0; exact .inr (.inl ⟨a, b⟩); exact .inr (.inr ⟨a, b, hev a b⟩)); exact .inl a : kd ≠ 2 ∨ (kd = 2 ∧ p.tmod 2 = 0) ∨ (kd = 2 ∧ p.tmod 2 ≠ 0 ∧ q % 2 = 0)) with hA | ⟨hA, hB⟩ | ⟨hA, hB, hC⟩
  · (have g1 : (kd == 2) = false := by rw [beq_eq_false_iff_ne]; exact hA)
    skip
    have HV := Lib.hid hv
    have H0 := Lib.hid h0
    skip
    clear h0 he hev
    go_enter Tryz.func19, Tryz.ntmps19
    go_wp2_with fail
    refine (validFraction_any p q _).mono ?_
    rintro e w1 ⟨rfl, hb1⟩
    obtain ⟨hc1, hf1, hs1⟩ := keepc hb1
    have hB1 : Below w.heap.size w w1 := Below.trans (by go_grown) (hb1.mono (by first | exact Nat.le_refl _ | (simp only [World.size_alloc]; omega)))
    try simp only [World.size_alloc] at hs1
    have hl1_0 : w.heap.size < w1.heap.size := by omega
    go_wp2_with fail
    refine (isKind_any _ _).mono ?_
    rintro e w' ⟨rfl, rfl⟩
    rw [hk]
    go_wp2_with fail
    go_quiet (fail)
    go_wp2_with fail
    have hBq : Below w.heap.size w (w1.drewN nq) := hB1.trans (below_drewN _ _ _)
    generalize w1.drewN nq = wq at hBq ⊢
    clear hc1 hf1 hb1 hB1
    go_loopw [6, 7, 8, 9] (fun l u v s wr => ∃ (j : Nat) (sg a b : Int) (A : Option Addr) (c : Nat) (fs : List (Int × Int)), j ≤ 60 ∧ l = .slice A j c ∧ u = .int .i64 a ∧ v = .int .i64 b ∧ s = .int .i64 sg ∧ -1000000000 ≤ a ∧ a ≤ 1000000000 ∧ 1 ≤ b ∧ b ≤ 1000000000 ∧ -1 ≤ sg ∧ sg ≤ 1 ∧
      wr.ownsRow w.heap.size 86 2 (.slice A j c) j (prs fs) ∧ Hid (ExpAt kd p q j sg a b fs) ∧ Hid (∀ z ∈ fs, Rng z.1 ∧ Rng z.2) ∧ Below w.heap.size w wr) (fun l _ _ _ _ => 61 - slN l)
    case atStart => exact ⟨0, 1, p, q, none, 0, [], by omega, rfl, rfl, rfl, rfl, v3, v4, v1, v2, by omega, by omega, World.ownsRow_nil .., ExpAt.start _ _ _, (fun z hz => by cases hz), hBq⟩
    case round =>
      obtain ⟨j, sg, a, b, A, c, fs, hj, rfl, rfl, rfl, rfl, a1, a2, b1, b2, g3, g4, hown, HE, HG, hB⟩ := hrel
      have HO := Lib.hid hown
      have HF := Lib.hid hown.lt
      have hbase : w.heap.size ≤ wr.heap.size := hB.size
      obtain ⟨m1, m2, m3, m4⟩ := trmK_bd kd b1 b2 a1 a2
      obtain ⟨l1, l2⟩ := trmK_left kd a b1
      have HT := Lib.hid (fun (w : World) => termByKind_any a b kd w (by omega) (by omega) b1 b2 a1 a2)
      obtain ⟨t, ht⟩ : ∃ t, t = trmK kd a b := ⟨_, rfl⟩
      have HX := Lib.hid ht
      rw [← ht] at m1 m2 m3 m4 l1 l2 HT
      clear hown ht hBq
      by_cases hj60 : j < 60
      · have hjj : decide ((60 : Int) < (j : Int) + 1) = false := decide_eq_false (by omega)
        by_cases hl : a - t * b = 0
        · have hl0 : (a - t * b == 0) = true := by rw [beq_iff_eq]; exact hl
          have HL := Lib.hid hl
          clear hl
          have hrow := exp_row HG.out (s := sg) (t := t) (by unfold Rng; omega) (by unfold Rng; omega)
          have hfin := HE.out.stop hj60 (by rw [← HX.out]; exact HL.out)
          rw [← HX.out] at hfin
          have HFin := Lib.hid hfin
          have HRow := Lib.hid hrow
          clear hrow hfin
          go_wp2_with fail
          refine (HT.out _).mono ?_
          rintro e w' ⟨rfl, rfl⟩
          go_wp2_with (first | (at_builtin; refine wpList_append_lies _ rfl (.tmp 43) (.tmp 47) 46 rfl w.heap.size 86 i0 (.agg #[.int .i64 0, .int .i64 0]) 2 16 Tryz.underlying46 hi hz0 hz1 hz2 rfl (by decide) _ j (prs fs) (by rfl) (HO.out.alloc _) ⟨wr.heap.size, 0, none⟩ 1 1 [.int .i64 sg, .int .i64 t] (by rfl) rfl ?cells (by simp [Value.oneCell']) (by decide) (by show j + 1 ≤ 9223372036854775807; omega) (by omega) (by simp; omega) (wr.heap.size + 1) (by simp) ?_; rotate_left; intro g cap1 wn hown1 hgrow hat hlt1))
          case cells => exact fun j u hu => newcell (by simp) hu
          rw [show prs fs ++ [Value.int .i64 sg, .int .i64 t] = prs (fs ++ [(sg, t)]) from by rw [prs_append]; rfl] at hown1
          have hbn : Below w.heap.size w wn := (hB.alloc hbase _).grown hgrow (by simp; omega) (fun k hk => (HF.out k hk).1)
          have HS := Lib.hid hown1
          clear hown1 hgrow hat hB
          refine (validSigned_any _ (j + 1) cap1 (fs ++ [(sg, t)]) _ (PRow.of_own HS.out (by omega) HRow.out) (own_cap HS.out)).mono ?_
          rintro e wv ⟨rfl, hbv⟩
          have hO := Lib.hid (own_below HS.out hbv)
          have hbv2 := hbn.trans (hbv.mono hbn.size)
          have hlen := own_lenP HS.out
          clear hbv hbn
          cases hs : sgnB (fs ++ [(sg, t)])
          · have HQ := Lib.hid (show exsO p q kd = none from by rw [exs_some HFin.out, if_neg (by simp [hs])])
            clear hlen
            go_wp2_with fail
            go_ret2
            unfold ResX
            rw [HQ.out]
            exact ⟨⟨none, 0, rfl, World.ownsRow_nil ..⟩, hbv2⟩
          · have HQ := Lib.hid (show exsO p q kd = some (fs ++ [(sg, t)]) from by rw [exs_some HFin.out, if_pos hs])
            have HN := Lib.hid hlen
            clear hlen
            go_wp2_with fail
            go_ret2
            unfold ResX ResS
            rw [HQ.out]
            simp only [Option.getD_some, Option.isSome_some, HN.out]
            exact ⟨⟨_, _, rfl, hO.out⟩, hbv2⟩
        · have hl0 : (a - t * b == 0) = false := by rw [beq_eq_false_iff_ne]; exact hl
          have hsg := sgI_bd (a - t * b)
          have hlb : 1 ≤ ((a - t * b).natAbs : Int) := by omega
          have hlb2 : ((a - t * b).natAbs : Int) ≤ 1000000000 := by omega
          have hrow := exp_row HG.out (s := sg) (t := t) (by unfold Rng; omega) (by unfold Rng; omega)
          have hfin := HE.out.step hj60 (by rw [← HX.out]; exact hl)
          rw [← HX.out] at hfin
          have HFin := Lib.hid hfin
          have HRow := Lib.hid hrow
          have HSg := Lib.hid (fun w => sign_any (a - t * b) w)
          have HAb := Lib.hid (fun w => abs_any (a - t * b) w (by omega) (by omega))
          clear hrow hfin hl
          go_wp2_with fail
          refine (HT.out _).mono ?_
          rintro e w' ⟨rfl, rfl⟩
          go_wp2_with (first | (at_builtin; refine wpList_append_lies _ rfl (.tmp 43) (.tmp 47) 46 rfl w.heap.size 86 i0 (.agg #[.int .i64 0, .int .i64 0]) 2 16 Tryz.underlying46 hi hz0 hz1 hz2 rfl (by decide) _ j (prs fs) (by rfl) (HO.out.alloc _) ⟨wr.heap.size, 0, none⟩ 1 1 [.int .i64 sg, .int .i64 t] (by rfl) rfl ?cells (by simp [Value.oneCell']) (by decide) (by show j + 1 ≤ 9223372036854775807; omega) (by omega) (by simp; omega) (wr.heap.size + 1) (by simp) ?_; rotate_left; intro g cap1 wn hown1 hgrow hat hlt1))
          case cells => exact fun j u hu => newcell (by simp) hu
          rw [show prs fs ++ [Value.int .i64 sg, .int .i64 t] = prs (fs ++ [(sg, t)]) from by rw [prs_append]; rfl] at hown1
          have hbn : Below w.heap.size w wn := (hB.alloc hbase _).grown hgrow (by simp; omega) (fun k hk => (HF.out k hk).1)
          have HS := Lib.hid hown1
          clear hown1 hgrow hat hB
          refine (HSg.out _).mono ?_
          rintro e w' ⟨rfl, rfl⟩
          go_wp2_with fail
          refine (HAb.out _).mono ?_
          rintro e w' ⟨rfl, rfl⟩
          go_wp2_with fail
          go_roundw
          case rel => exact ⟨j + 1, _, _, _, _, _, fs ++ [(sg, t)], by omega, rfl, rfl, rfl, rfl, by omega, by omega, hlb, hlb2, hsg.1, hsg.2, HS.out, HFin.out, HRow.out, hbn⟩
          case measure => simp [slN]; omega
      · have hjj : decide ((60 : Int) < (j : Int) + 1) = true := decide_eq_true (by omega)
        have HFin := Lib.hid (exs_none (HE.out.full (by omega)))
        go_wp2_with fail
        refine (HT.out _).mono ?_
        rintro e w' ⟨rfl, rfl⟩
        go_wp2_with (first | (at_builtin; refine wpList_append_lies _ rfl (.tmp 43) (.tmp 47) 46 rfl w.heap.size 86 i0 (.agg #[.int .i64 0, .int .i64 0]) 2 16 Tryz.underlying46 hi hz0 hz1 hz2 rfl (by decide) _ j (prs fs) (by rfl) (HO.out.alloc _) ⟨wr.heap.size, 0, none⟩ 1 1 [.int .i64 sg, .int .i64 t] (by rfl) rfl ?cells (by simp [Value.oneCell']) (by decide) (by show j + 1 ≤ 9223372036854775807; omega) (by omega) (by simp; omega) (wr.heap.size + 1) (by simp) ?_; rotate_left; intro g cap1 wn hown1 hgrow hat hlt1))
        case cells => exact fun j u hu => newcell (by simp) hu
        have hbn : Below w.heap.size w wn := (hB.alloc hbase _).grown hgrow (by simp; omega) (fun k hk => (HF.out k hk).1)
        clear hown1 hgrow hat
        go_ret2
        unfold ResX
        rw [HFin.out]
        exact ⟨⟨none, 0, rfl, World.ownsRow_nil ..⟩, hbn⟩
  · (have g1 : (p.tmod 2 != 0) = false := by rw [bne_eq_false_iff_eq]; exact hB)
    skip
    have HV := Lib.hid hv
    have H0 := Lib.hid h0
    (clear hB; subst hA)
    clear h0 he hev
    go_enter Tryz.func19, Tryz.ntmps19
    go_wp2_with fail
    refine (validFraction_any p q _).mono ?_
    rintro e w1 ⟨rfl, hb1⟩
    obtain ⟨hc1, hf1, hs1⟩ := keepc hb1
    have hB1 : Below w.heap.size w w1 := Below.trans (by go_grown) (hb1.mono (by first | exact Nat.le_refl _ | (simp only [World.size_alloc]; omega)))
    try simp only [World.size_alloc] at hs1
    have hl1_0 : w.heap.size < w1.heap.size := by omega
    go_wp2_with fail
    refine (isKind_any _ _).mono ?_
    rintro e w' ⟨rfl, rfl⟩
    rw [hk]
    go_wp2_with fail
    go_quiet (fail)
    go_wp2_with fail
    have hBq : Below w.heap.size w (w1.drewN nq) := hB1.trans (below_drewN _ _ _)
    generalize w1.drewN nq = wq at hBq ⊢
    clear hc1 hf1 hb1 hB1
    go_loopw [6, 7, 8, 9] (fun l u v s wr => ∃ (j : Nat) (sg a b : Int) (A : Option Addr) (c : Nat) (fs : List (Int × Int)), j ≤ 60 ∧ l = .slice A j c ∧ u = .int .i64 a ∧ v = .int .i64 b ∧ s = .int .i64 sg ∧ -1000000000 ≤ a ∧ a ≤ 1000000000 ∧ 1 ≤ b ∧ b ≤ 1000000000 ∧ -1 ≤ sg ∧ sg ≤ 1 ∧
      wr.ownsRow w.heap.size 86 2 (.slice A j c) j (prs fs) ∧ Hid (ExpAt 2 p q j sg a b fs) ∧ Hid (∀ z ∈ fs, Rng z.1 ∧ Rng z.2) ∧ Below w.heap.size w wr) (fun l _ _ _ _ => 61 - slN l)
    case atStart => exact ⟨0, 1, p, q, none, 0, [], by omega, rfl, rfl, rfl, rfl, v3, v4, v1, v2, by omega, by omega, World.ownsRow_nil .., ExpAt.start _ _ _, (fun z hz => by cases hz), hBq⟩
    case round =>
      obtain ⟨j, sg, a, b, A, c, fs, hj, rfl, rfl, rfl, rfl, a1, a2, b1, b2, g3, g4, hown, HE, HG, hB⟩ := hrel
      have HO := Lib.hid hown
      have HF := Lib.hid hown.lt
      have hbase : w.heap.size ≤ wr.heap.size := hB.size
      obtain ⟨m1, m2, m3, m4⟩ := trmK_bd 2 b1 b2 a1 a2
      obtain ⟨l1, l2⟩ := trmK_left 2 a b1
      have HT := Lib.hid (fun (w : World) => termByKind_any a b 2 w (by omega) (by omega) b1 b2 a1 a2)
      obtain ⟨t, ht⟩ : ∃ t, t = trmK 2 a b := ⟨_, rfl⟩
      have HX := Lib.hid ht
      rw [← ht] at m1 m2 m3 m4 l1 l2 HT
      clear hown ht hBq
      by_cases hj60 : j < 60
      · have hjj : decide ((60 : Int) < (j : Int) + 1) = false := decide_eq_false (by omega)
        by_cases hl : a - t * b = 0
        · have hl0 : (a - t * b == 0) = true := by rw [beq_iff_eq]; exact hl
          have HL := Lib.hid hl
          clear hl
          have hrow := exp_row HG.out (s := sg) (t := t) (by unfold Rng; omega) (by unfold Rng; omega)
          have hfin := HE.out.stop hj60 (by rw [← HX.out]; exact HL.out)
          rw [← HX.out] at hfin
          have HFin := Lib.hid hfin
          have HRow := Lib.hid hrow
          clear hrow hfin
          go_wp2_with fail
          refine (HT.out _).mono ?_
          rintro e w' ⟨rfl, rfl⟩
          go_wp2_with (first | (at_builtin; refine wpList_append_lies _ rfl (.tmp 43) (.tmp 47) 46 rfl w.heap.size 86 i0 (.agg #[.int .i64 0, .int .i64 0]) 2 16 Tryz.underlying46 hi hz0 hz1 hz2 rfl (by decide) _ j (prs fs) (by rfl) (HO.out.alloc _) ⟨wr.heap.size, 0, none⟩ 1 1 [.int .i64 sg, .int .i64 t] (by rfl) rfl ?cells (by simp [Value.oneCell']) (by decide) (by show j + 1 ≤ 9223372036854775807; omega) (by omega) (by simp; omega) (wr.heap.size + 1) (by simp) ?_; rotate_left; intro g cap1 wn hown1 hgrow hat hlt1))
          case cells => exact fun j u hu => newcell (by simp) hu
          rw [show prs fs ++ [Value.int .i64 sg, .int .i64 t] = prs (fs ++ [(sg, t)]) from by rw [prs_append]; rfl] at hown1
          have hbn : Below w.heap.size w wn := (hB.alloc hbase _).grown hgrow (by simp; omega) (fun k hk => (HF.out k hk).1)
          have HS := Lib.hid hown1
          clear hown1 hgrow hat hB
          refine (validSigned_any _ (j + 1) cap1 (fs ++ [(sg, t)]) _ (PRow.of_own HS.out (by omega) HRow.out) (own_cap HS.out)).mono ?_
          rintro e wv ⟨rfl, hbv⟩
          have hO := Lib.hid (own_below HS.out hbv)
          have hbv2 := hbn.trans (hbv.mono hbn.size)
          have hlen := own_lenP HS.out
          clear hbv hbn
          cases hs : sgnB (fs ++ [(sg, t)])
          · have HQ := Lib.hid (show exsO p q 2 = none from by rw [exs_some HFin.out, if_neg (by simp [hs])])
            clear hlen
            go_wp2_with fail
            go_ret2
            unfold ResX
            rw [HQ.out]
            exact ⟨⟨none, 0, rfl, World.ownsRow_nil ..⟩, hbv2⟩
          · have HQ := Lib.hid (show exsO p q 2 = some (fs ++ [(sg, t)]) from by rw [exs_some HFin.out, if_pos hs])
            have HN := Lib.hid hlen
            clear hlen
            go_wp2_with fail
            go_ret2
            unfold ResX ResS
            rw [HQ.out]
            simp only [Option.getD_some, Option.isSome_some, HN.out]
            exact ⟨⟨_, _, rfl, hO.out⟩, hbv2⟩
        · have hl0 : (a - t * b == 0) = false := by rw [beq_eq_false_iff_ne]; exact hl
          have hsg := sgI_bd (a - t * b)
          have hlb : 1 ≤ ((a - t * b).natAbs : Int) := by omega
          have hlb2 : ((a - t * b).natAbs : Int) ≤ 1000000000 := by omega
          have hrow := exp_row HG.out (s := sg) (t := t) (by unfold Rng; omega) (by unfold Rng; omega)
          have hfin := HE.out.step hj60 (by rw [← HX.out]; exact hl)
          rw [← HX.out] at hfin
          have HFin := Lib.hid hfin
          have HRow := Lib.hid hrow
          have HSg := Lib.hid (fun w => sign_any (a - t * b) w)
          have HAb := Lib.hid (fun w => abs_any (a - t * b) w (by omega) (by omega))
          clear hrow hfin hl
          go_wp2_with fail
          refine (HT.out _).mono ?_
          rintro e w' ⟨rfl, rfl⟩
          go_wp2_with (first | (at_builtin; refine wpList_append_lies _ rfl (.tmp 43) (.tmp 47) 46 rfl w.heap.size 86 i0 (.agg #[.int .i64 0, .int .i64 0]) 2 16 Tryz.underlying46 hi hz0 hz1 hz2 rfl (by decide) _ j (prs fs) (by rfl) (HO.out.alloc _) ⟨wr.heap.size, 0, none⟩ 1 1 [.int .i64 sg, .int .i64 t] (by rfl) rfl ?cells (by simp [Value.oneCell']) (by decide) (by show j + 1 ≤ 9223372036854775807; omega) (by omega) (by simp; omega) (wr.heap.size + 1) (by simp) ?_; rotate_left; intro g cap1 wn hown1 hgrow hat hlt1))
          case cells => exact fun j u hu => newcell (by simp) hu
          rw [show prs fs ++ [Value.int .i64 sg, .int .i64 t] = prs (fs ++ [(sg, t)]) from by rw [prs_append]; rfl] at hown1
          have hbn : Below w.heap.size w wn := (hB.alloc hbase _).grown hgrow (by simp; omega) (fun k hk => (HF.out k hk).1)
          have HS := Lib.hid hown1
          clear hown1 hgrow hat hB
          refine (HSg.out _).mono ?_
          rintro e w' ⟨rfl, rfl⟩
          go_wp2_with fail
          refine (HAb.out _).mono ?_
          rintro e w' ⟨rfl, rfl⟩
          go_wp2_with fail
          go_roundw
          case rel => exact ⟨j + 1, _, _, _, _, _, fs ++ [(sg, t)], by omega, rfl, rfl, rfl, rfl, by omega, by omega, hlb, hlb2, hsg.1, hsg.2, HS.out, HFin.out, HRow.out, hbn⟩
          case measure => simp [slN]; omega
      · have hjj : decide ((60 : Int) < (j : Int) + 1) = true := decide_eq_true (by omega)
        have HFin := Lib.hid (exs_none (HE.out.full (by omega)))
        go_wp2_with fail
        refine (HT.out _).mono ?_
        rintro e w' ⟨rfl, rfl⟩
        go_wp2_with (first | (at_builtin; refine wpList_append_lies _ rfl (.tmp 43) (.tmp 47) 46 rfl w.heap.size 86 i0 (.agg #[.int .i64 0, .int .i64 0]) 2 16 Tryz.underlying46 hi hz0 hz1 hz2 rfl (by decide) _ j (prs fs) (by rfl) (HO.out.alloc _) ⟨wr.heap.size, 0, none⟩ 1 1 [.int .i64 sg, .int .i64 t] (by rfl) rfl ?cells (by simp [Value.oneCell']) (by decide) (by show j + 1 ≤ 9223372036854775807; omega) (by omega) (by simp; omega) (wr.heap.size + 1) (by simp) ?_; rotate_left; intro g cap1 wn hown1 hgrow hat hlt1))
        case cells => exact fun j u hu => newcell (by simp) hu
        have hbn : Below w.heap.size w wn := (hB.alloc hbase _).grown hgrow (by simp; omega) (fun k hk => (HF.out k hk).1)
        clear hown1 hgrow hat
        go_ret2
        unfold ResX
        rw [HFin.out]
        exact ⟨⟨none, 0, rfl, World.ownsRow_nil ..⟩, hbn⟩
  · (have g1 : (p.tmod 2 != 0) = true := by rw [bne_iff_ne]; exact hB)
    (have g2 : (q % 2 != 0) = false := by rw [bne_eq_false_iff_eq]; exact hC)
    have HV := Lib.hid hv
    have H0 := Lib.hid h0
    (clear hB hC; subst hA)
    clear h0 he hev
    go_enter Tryz.func19, Tryz.ntmps19
    go_wp2_with fail
    refine (validFraction_any p q _).mono ?_
    rintro e w1 ⟨rfl, hb1⟩
    obtain ⟨hc1, hf1, hs1⟩ := keepc hb1
    have hB1 : Below w.heap.size w w1 := Below.trans (by go_grown) (hb1.mono (by first | exact Nat.le_refl _ | (simp only [World.size_alloc]; omega)))
    try simp only [World.size_alloc] at hs1
    have hl1_0 : w.heap.size < w1.heap.size := by omega
    go_wp2_with fail
    refine (isKind_any _ _).mono ?_
    rintro e w' ⟨rfl, rfl⟩
    rw [hk]
    go_wp2_with fail
    go_quiet (fail)
    go_wp2_with fail
    have hBq : Below w.heap.size w (w1.drewN nq) := hB1.trans (below_drewN _ _ _)
    generalize w1.drewN nq = wq at hBq ⊢
    clear hc1 hf1 hb1 hB1
    go_loopw [6, 7, 8, 9] (fun l u v s wr => ∃ (j : Nat) (sg a b : Int) (A : Option Addr) (c : Nat) (fs : List (Int × Int)), j ≤ 60 ∧ l = .slice A j c ∧ u = .int .i64 a ∧ v = .int .i64 b ∧ s = .int .i64 sg ∧ -1000000000 ≤ a ∧ a ≤ 1000000000 ∧ 1 ≤ b ∧ b ≤ 1000000000 ∧ -1 ≤ sg ∧ sg ≤ 1 ∧
      wr.ownsRow w.heap.size 86 2 (.slice A j c) j (prs fs) ∧ Hid (ExpAt 2 p q j sg a b fs) ∧ Hid (∀ z ∈ fs, Rng z.1 ∧ Rng z.2) ∧ Below w.heap.size w wr) (fun l _ _ _ _ => 61 - slN l)
    case atStart => exact ⟨0, 1, p, q, none, 0, [], by omega, rfl, rfl, rfl, rfl, v3, v4, v1, v2, by omega, by omega, World.ownsRow_nil .., ExpAt.start _ _ _, (fun z hz => by cases hz), hBq⟩
    case round =>
      obtain ⟨j, sg, a, b, A, c, fs, hj, rfl, rfl, rfl, rfl, a1, a2, b1, b2, g3, g4, hown, HE, HG, hB⟩ := hrel
      have HO := Lib.hid hown
      have HF := Lib.hid hown.lt
      have hbase : w.heap.size ≤ wr.heap.size := hB.size
      obtain ⟨m1, m2, m3, m4⟩ := trmK_bd 2 b1 b2 a1 a2
      obtain ⟨l1, l2⟩ := trmK_left 2 a b1
      have HT := Lib.hid (fun (w : World) => termByKind_any a b 2 w (by omega) (by omega) b1 b2 a1 a2)
      obtain ⟨t, ht⟩ : ∃ t, t = trmK 2 a b := ⟨_, rfl⟩
      have HX := Lib.hid ht
      rw [← ht] at m1 m2 m3 m4 l1 l2 HT
      clear hown ht hBq
      by_cases hj60 : j < 60
      · have hjj : decide ((60 : Int) < (j : Int) + 1) = false := decide_eq_false (by omega)
        by_cases hl : a - t * b = 0
        · have hl0 : (a - t * b == 0) = true := by rw [beq_iff_eq]; exact hl
          have HL := Lib.hid hl
          clear hl
          have hrow := exp_row HG.out (s := sg) (t := t) (by unfold Rng; omega) (by unfold Rng; omega)
          have hfin := HE.out.stop hj60 (by rw [← HX.out]; exact HL.out)
          rw [← HX.out] at hfin
          have HFin := Lib.hid hfin
          have HRow := Lib.hid hrow
          clear hrow hfin
          go_wp2_with fail
          refine (HT.out _).mono ?_
          rintro e w' ⟨rfl, rfl⟩
          go_wp2_with (first | (at_builtin; refine wpList_append_lies _ rfl (.tmp 43) (.tmp 47) 46 rfl w.heap.size 86 i0 (.agg #[.int .i64 0, .int .i64 0]) 2 16 Tryz.underlying46 hi hz0 hz1 hz2 rfl (by decide) _ j (prs fs) (by rfl) (HO.out.alloc _) ⟨wr.heap.size, 0, none⟩ 1 1 [.int .i64 sg, .int .i64 t] (by rfl) rfl ?cells (by simp [Value.oneCell']) (by decide) (by show j + 1 ≤ 9223372036854775807; omega) (by omega) (by simp; omega) (wr.heap.size + 1) (by simp) ?_; rotate_left; intro g cap1 wn hown1 hgrow hat hlt1))
          case cells => exact fun j u hu => newcell (by simp) hu
          rw [show prs fs ++ [Value.int .i64 sg, .int .i64 t] = prs (fs ++ [(sg, t)]) from by rw [prs_append]; rfl] at hown1
          have hbn : Below w.heap.size w wn := (hB.alloc hbase _).grown hgrow (by simp; omega) (fun k hk => (HF.out k hk).1)
          have HS := Lib.hid hown1
          clear hown1 hgrow hat hB
          refine (validSigned_any _ (j + 1) cap1 (fs ++ [(sg, t)]) _ (PRow.of_own HS.out (by omega) HRow.out) (own_cap HS.out)).mono ?_
          rintro e wv ⟨rfl, hbv⟩
          have hO := Lib.hid (own_below HS.out hbv)
          have hbv2 := hbn.trans (hbv.mono hbn.size)
          have hlen := own_lenP HS.out
          clear hbv hbn
          cases hs : sgnB (fs ++ [(sg, t)])
          · have HQ := Lib.hid (show exsO p q 2 = none from by rw [exs_some HFin.out, if_neg (by simp [hs])])
            clear hlen
            go_wp2_with fail
            go_ret2
            unfold ResX
            rw [HQ.out]
            exact ⟨⟨none, 0, rfl, World.ownsRow_nil ..⟩, hbv2⟩
          · have HQ := Lib.hid (show exsO p q 2 = some (fs ++ [(sg, t)]) from by rw [exs_some HFin.out, if_pos hs])
            have HN := Lib.hid hlen
            clear hlen
            go_wp2_with fail
            go_ret2
            unfold ResX ResS
            rw [HQ.out]
            simp only [Option.getD_some, Option.isSome_some, HN.out]
            exact ⟨⟨_, _, rfl, hO.out⟩, hbv2⟩
        · have hl0 : (a - t * b == 0) = false := by rw [beq_eq_false_iff_ne]; exact hl
          have hsg := sgI_bd (a - t * b)
          have hlb : 1 ≤ ((a - t * b).natAbs : Int) := by omega
          have hlb2 : ((a - t * b).natAbs : Int) ≤ 1000000000 := by omega
          have hrow := exp_row HG.out (s := sg) (t := t) (by unfold Rng; omega) (by unfold Rng; omega)
          have hfin := HE.out.step hj60 (by rw [← HX.out]; exact hl)
          rw [← HX.out] at hfin
          have HFin := Lib.hid hfin
          have HRow := Lib.hid hrow
          have HSg := Lib.hid (fun w => sign_any (a - t * b) w)
          have HAb := Lib.hid (fun w => abs_any (a - t * b) w (by omega) (by omega))
          clear hrow hfin hl
          go_wp2_with fail
          refine (HT.out _).mono ?_
          rintro e w' ⟨rfl, rfl⟩
          go_wp2_with (first | (at_builtin; refine wpList_append_lies _ rfl (.tmp 43) (.tmp 47) 46 rfl w.heap.size 86 i0 (.agg #[.int .i64 0, .int .i64 0]) 2 16 Tryz.underlying46 hi hz0 hz1 hz2 rfl (by decide) _ j (prs fs) (by rfl) (HO.out.alloc _) ⟨wr.heap.size, 0, none⟩ 1 1 [.int .i64 sg, .int .i64 t] (by rfl) rfl ?cells (by simp [Value.oneCell']) (by decide) (by show j + 1 ≤ 9223372036854775807; omega) (by omega) (by simp; omega) (wr.heap.size + 1) (by simp) ?_; rotate_left; intro g cap1 wn hown1 hgrow hat hlt1))
          case cells => exact fun j u hu => newcell (by simp) hu
          rw [show prs fs ++ [Value.int .i64 sg, .int .i64 t] = prs (fs ++ [(sg, t)]) from by rw [prs_append]; rfl] at hown1
          have hbn : Below w.heap.size w wn := (hB.alloc hbase _).grown hgrow (by simp; omega) (fun k hk => (HF.out k hk).1)
          have HS := Lib.hid hown1
          clear hown1 hgrow hat hB
          refine (HSg.out _).mono ?_
          rintro e w' ⟨rfl, rfl⟩
          go_wp2_with fail
          refine (HAb.out _).mono ?_
          rintro e w' ⟨rfl, rfl⟩
          go_wp2_with fail
          go_roundw
          case rel => exact ⟨j + 1, _, _, _, _, _, fs ++ [(sg, t)], by omega, rfl, rfl, rfl, rfl, by omega, by omega, hlb, hlb2, hsg.1, hsg.2, HS.out, HFin.out, HRow.out, hbn⟩
          case measure => simp [slN]; omega
      · have hjj : decide ((60 : Int) < (j : Int) + 1) = true := decide_eq_true (by omega)
        have HFin := Lib.hid (exs_none (HE.out.full (by omega)))
        go_wp2_with fail
        refine (HT.out _).mono ?_
        rintro e w' ⟨rfl, rfl⟩
        go_wp2_with (first | (at_builtin; refine wpList_append_lies _ rfl (.tmp 43) (.tmp 47) 46 rfl w.heap.size 86 i0 (.agg #[.int .i64 0, .int .i64 0]) 2 16 Tryz.underlying46 hi hz0 hz1 hz2 rfl (by decide) _ j (prs fs) (by rfl) (HO.out.alloc _) ⟨wr.heap.size, 0, none⟩ 1 1 [.int .i64 sg, .int .i64 t] (by rfl) rfl ?cells (by simp [Value.oneCell']) (by decide) (by show j + 1 ≤ 9223372036854775807; omega) (by omega) (by simp; omega) (wr.heap.size + 1) (by simp) ?_; rotate_left; intro g cap1 wn hown1 hgrow hat hlt1))
        case cells => exact fun j u hu => newcell (by simp) hu
        have hbn : Below w.heap.size w wn := (hB.alloc hbase _).grown hgrow (by simp; omega) (fun k hk => (HF.out k hk).1)
        clear hown1 hgrow hat
        go_ret2
        unfold ResX
        rw [HFin.out]
        exact ⟨⟨none, 0, rfl, World.ownsRow_nil ..⟩, hbn⟩
theorem exs_zero {p q kd : Int} (h : cdeK p q kd = 0) : exsL p q kd = (exsO p q kd).getD [] ∧ exsC p q kd = if (exsO p q kd).isSome = true then 0 else 5 := ⟨if_pos h, if_pos h⟩
theorem exs_code {p q kd : Int} (h : cdeK p q kd ≠ 0) : exsL p q kd = [] ∧ exsC p q kd = cdeK p q kd := ⟨if_neg h, if_neg h⟩
set_option maxHeartbeats 800000 in
theorem implExs_any (p q kd : Int) (w : World) :
    Calls Tryz.prog 19 #[.agg #[.int .i64 p, .int .i64 q], .int .i64 kd] w fun e w' => ResS w.heap.size (exsL p q kd) (exsC p q kd) e w' ∧ Below w.heap.size w w' := by
  by_cases h0 : cdeK p q kd = 0
  · obtain ⟨e1, e2⟩ := exs_zero h0
    rw [e1, e2]
    exact implExs_core p q kd w h0
  · obtain ⟨e1, e2⟩ := exs_code h0
    rw [e1, e2]
    cases hv : vfB p q
    · rw [show cdeK p q kd = 1 from if_neg (by simp [hv])]
      clear h0 e1 e2
      go_enter Tryz.func19, Tryz.ntmps19
      go_wp2_with fail
      refine (validFraction_any p q _).mono ?_
      rintro e w1 ⟨rfl, hb1⟩
      obtain ⟨hc1, hf1, hs1⟩ := keepc hb1
      have hB1 : Below w.heap.size w w1 := Below.trans (by go_grown) (hb1.mono (by first | exact Nat.le_refl _ | (simp only [World.size_alloc]; omega)))
      try simp only [World.size_alloc] at hs1
      have hl1_0 : w.heap.size < w1.heap.size := by omega
      go_wp2_with fail
      go_ret2
      exact ⟨⟨none, 0, rfl, World.ownsRow_nil ..⟩, hB1⟩
    · cases hk : inB kd 1 4
      · rw [show cdeK p q kd = 2 from by unfold cdeK; rw [if_pos hv, if_neg (by simp [hk])]]
        clear h0 e1 e2
        go_enter Tryz.func19, Tryz.ntmps19
        go_wp2_with fail
        refine (validFraction_any p q _).mono ?_
        rintro e w1 ⟨rfl, hb1⟩
        obtain ⟨hc1, hf1, hs1⟩ := keepc hb1
        have hB1 : Below w.heap.size w w1 := Below.trans (by go_grown) (hb1.mono (by first | exact Nat.le_refl _ | (simp only [World.size_alloc]; omega)))
        try simp only [World.size_alloc] at hs1
        have hl1_0 : w.heap.size < w1.heap.size := by omega
        go_wp2_with fail
        refine (isKind_any kd _).mono ?_
        rintro e w' ⟨rfl, rfl⟩
        rw [hk]
        go_wp2_with fail
        go_ret2
        exact ⟨⟨none, 0, rfl, World.ownsRow_nil ..⟩, hB1⟩
      · cases he : evnB p q kd
        · exfalso
          apply h0
          unfold cdeK
          rw [if_pos hv, if_pos hk, if_neg (by simp [he])]
        · rw [show cdeK p q kd = 6 from by unfold cdeK; rw [if_pos hv, if_pos hk, if_pos he]]
          obtain ⟨rfl, hB, hC⟩ : kd = 2 ∧ p.tmod 2 ≠ 0 ∧ q % 2 ≠ 0 := by unfold evnB at he; exact of_decide_eq_true he
          have hv1 : 1 ≤ q := (vfB_iff.1 hv).1
          have g1 : (p.tmod 2 != 0) = true := by rw [bne_iff_ne]; exact hB
          have g2 : (q % 2 != 0) = true := by rw [bne_iff_ne]; exact hC
          clear h0 e1 e2 hB hC he
          go_enter Tryz.func19, Tryz.ntmps19
          go_wp2_with fail
          refine (validFraction_any p q _).mono ?_
          rintro e w1 ⟨rfl, hb1⟩
          obtain ⟨hc1, hf1, hs1⟩ := keepc hb1
          have hB1 : Below w.heap.size w w1 := Below.trans (by go_grown) (hb1.mono (by first | exact Nat.le_refl _ | (simp only [World.size_alloc]; omega)))
          try simp only [World.size_alloc] at hs1
          have hl1_0 : w.heap.size < w1.heap.size := by omega
          go_wp2_with fail
          refine (isKind_any 2 _).mono ?_
          rintro e w' ⟨rfl, rfl⟩
          rw [hk]
          go_wp2_with fail
          go_ret2
          exact ⟨⟨none, 0, rfl, World.ownsRow_nil ..⟩, hB1⟩
set_option maxHeartbeats 800000 in
theorem l04Code_any (p q kd : Int) (w : World) : Calls Tryz.prog 62 #[.agg #[.int .i64 p, .int .i64 q], .int .i64 kd] w fun e w' => e = .returned (.int .i64 (cdeK p q kd)) ∧ Below w.heap.size w w' := by
  cases hv : vfB p q
  · rw [show cdeK p q kd = 1 from if_neg (by simp [hv])]
    go_enter Tryz.func62, Tryz.ntmps62
    go_wp2_with fail
    refine (l02Ok_any p q _).mono ?_
    rintro e w1 ⟨rfl, hb1⟩
    obtain ⟨hc1, hf1, hs1⟩ := keepc hb1
    have hB1 : Below w.heap.size w w1 := Below.trans (by go_grown) (hb1.mono (by first | exact Nat.le_refl _ | (simp only [World.size_alloc]; omega)))
    try simp only [World.size_alloc] at hs1
    have hl1_0 : w.heap.size < w1.heap.size := by omega
    go_wp2_with fail
    go_ret
    exact ⟨rfl, hB1⟩
  · have hv1 : 1 ≤ q := (vfB_iff.1 hv).1
    cases hk : inB kd 1 4
    · rw [show cdeK p q kd = 2 from by unfold cdeK; rw [if_pos hv, if_neg (by simp [hk])]]
      go_enter Tryz.func62, Tryz.ntmps62
      go_wp2_with fail
      refine (l02Ok_any p q _).mono ?_
      rintro e w1 ⟨rfl, hb1⟩
      obtain ⟨hc1, hf1, hs1⟩ := keepc hb1
      have hB1 : Below w.heap.size w w1 := Below.trans (by go_grown) (hb1.mono (by first | exact Nat.le_refl _ | (simp only [World.size_alloc]; omega)))
      try simp only [World.size_alloc] at hs1
      have hl1_0 : w.heap.size < w1.heap.size := by omega
      go_wp2_with fail
      refine (l04Kind_any kd _).mono ?_
      rintro e w' ⟨rfl, rfl⟩
      rw [hk]
      go_wp2_with fail
      go_ret
      exact ⟨rfl, hB1⟩
    · by_cases hA : kd = 2
      · subst hA
        by_cases hB : p.tmod 2 = 0
        · rw [show cdeK p q 2 = 0 from by unfold cdeK; rw [if_pos hv, if_pos hk, if_neg (by unfold evnB; simp [hB])]]
          have g1 : (p.tmod 2 != 0) = false := by rw [bne_eq_false_iff_eq]; exact hB
          clear hB
          go_enter Tryz.func62, Tryz.ntmps62
          go_wp2_with fail
          refine (l02Ok_any p q _).mono ?_
          rintro e w1 ⟨rfl, hb1⟩
          obtain ⟨hc1, hf1, hs1⟩ := keepc hb1
          have hB1 : Below w.heap.size w w1 := Below.trans (by go_grown) (hb1.mono (by first | exact Nat.le_refl _ | (simp only [World.size_alloc]; omega)))
          try simp only [World.size_alloc] at hs1
          have hl1_0 : w.heap.size < w1.heap.size := by omega
          go_wp2_with fail
          refine (l04Kind_any 2 _).mono ?_
          rintro e w' ⟨rfl, rfl⟩
          rw [hk]
          go_wp2_with fail
          go_ret
          exact ⟨rfl, hB1⟩
        · have g1 : (p.tmod 2 != 0) = true := by rw [bne_iff_ne]; exact hB
          by_cases hC : q % 2 = 0
          · rw [show cdeK p q 2 = 0 from by unfold cdeK; rw [if_pos hv, if_pos hk, if_neg (by unfold evnB; simp [hC])]]
            have g2 : (q % 2 != 0) = false := by rw [bne_eq_false_iff_eq]; exact hC
            clear hB hC
            go_enter Tryz.func62, Tryz.ntmps62
            go_wp2_with fail
            refine (l02Ok_any p q _).mono ?_
            rintro e w1 ⟨rfl, hb1⟩
            obtain ⟨hc1, hf1, hs1⟩ := keepc hb1
            have hB1 : Below w.heap.size w w1 := Below.trans (by go_grown) (hb1.mono (by first | exact Nat.le_refl _ | (simp only [World.size_alloc]; omega)))
            try simp only [World.size_alloc] at hs1
            have hl1_0 : w.heap.size < w1.heap.size := by omega
            go_wp2_with fail
            refine (l04Kind_any 2 _).mono ?_
            rintro e w' ⟨rfl, rfl⟩
            rw [hk]
            go_wp2_with fail
            go_ret
            exact ⟨rfl, hB1⟩
          · rw [show cdeK p q 2 = 6 from by unfold cdeK; rw [if_pos hv, if_pos hk, if_pos (show evnB p q 2 = true from decide_eq_true ⟨rfl, hB, hC⟩)]]
            have g2 : (q % 2 != 0) = true := by rw [bne_iff_ne]; exact hC
            clear hB hC
            go_enter Tryz.func62, Tryz.ntmps62
            go_wp2_with fail
            refine (l02Ok_any p q _).mono ?_
            rintro e w1 ⟨rfl, hb1⟩
            obtain ⟨hc1, hf1, hs1⟩ := keepc hb1
            have hB1 : Below w.heap.size w w1 := Below.trans (by go_grown) (hb1.mono (by first | exact Nat.le_refl _ | (simp only [World.size_alloc]; omega)))
            try simp only [World.size_alloc] at hs1
            have hl1_0 : w.heap.size < w1.heap.size := by omega
            go_wp2_with fail
            refine (l04Kind_any 2 _).mono ?_
            rintro e w' ⟨rfl, rfl⟩
            rw [hk]
            go_wp2_with fail
            go_ret
            exact ⟨rfl, hB1⟩
      · rw [show cdeK p q kd = 0 from by unfold cdeK; rw [if_pos hv, if_pos hk, if_neg (by unfold evnB; simp [hA])]]
        have g1 : (kd == 2) = false := by rw [beq_eq_false_iff_ne]; exact hA
        go_enter Tryz.func62, Tryz.ntmps62
        go_wp2_with fail
        refine (l02Ok_any p q _).mono ?_
        rintro e w1 ⟨rfl, hb1⟩
        obtain ⟨hc1, hf1, hs1⟩ := keepc hb1
        have hB1 : Below w.heap.size w w1 := Below.trans (by go_grown) (hb1.mono (by first | exact Nat.le_refl _ | (simp only [World.size_alloc]; omega)))
        try simp only [World.size_alloc] at hs1
        have hl1_0 : w.heap.size < w1.heap.size := by omega
        go_wp2_with fail
        refine (l04Kind_any kd _).mono ?_
        rintro e w' ⟨rfl, rfl⟩
        rw [hk]
        go_wp2_with fail
        go_ret
        exact ⟨rfl, hB1⟩
/-- The result of the reference's expansion: a list, and whether it is one. -/
def ResY (base : Nat) (o : Option (List (Int × Int))) (e : Ending) (w : World) : Prop :=
  ∃ (zs : List (Int × Int)) (A : Option Addr) (c : Nat), e = .returned (.tuple #[.slice A zs.length c, .bool o.isSome]) ∧ w.ownsRow base 86 2 (.slice A zs.length c) zs.length (prs zs) ∧ (∀ l, o = some l → zs = l) ∧ (∀ z ∈ zs, Rng z.1 ∧ Rng z.2) ∧ zs.length ≤ 60
set_option maxRecDepth 100000 in
set_option maxHeartbeats 3200000 in
theorem l04Expand_any (p q kd : Int) (w : World) (h0 : cdeK p q kd = 0) :
    Calls Tryz.prog 63 #[.agg #[.int .i64 p, .int .i64 q], .int .i64 kd] w fun e w' => ResY w.heap.size (exsO p q kd) e w' ∧ Below w.heap.size w w' := by
  obtain ⟨hv, hk, he⟩ := cde_in h0
  obtain ⟨v1, v2, v3, v4, _⟩ := vfB_iff.1 hv
  obtain ⟨k1, k2⟩ := inB_iff.1 hk
  obtain ⟨i0, hi, hz0, hz1, hz2⟩ := info_parts infoS
  have hown0 : ((w.alloc (.cells #[.int .i64 p, .int .i64 q] 25)).alloc (.cells #[] 86)).ownsRow w.heap.size 86 2 (.slice (some ⟨w.heap.size + 1, 0, none⟩) 0 0) 0 (prs []) := by
    have := World.ownsRow_made (base := w.heap.size) (e := 86) (size := 2) (w.alloc (.cells #[.int .i64 p, .int .i64 q] 25)) #[] 0 (by simp) (by decide) rfl
    simpa [prs] using this
  have HO := Lib.hid hown0
  clear hown0 h0 he hv hk
  go_enter Tryz.func63, Tryz.ntmps63
  go_wp2_with fail
  have hBq : Below w.heap.size w ((w.alloc (.cells #[.int .i64 p, .int .i64 q] 25)).alloc (.cells #[] 86)) := by go_grown
  generalize (w.alloc (.cells #[.int .i64 p, .int .i64 q] 25)).alloc (.cells #[] 86) = wq at *
  go_loopw [6, 7, 8, 9] (fun l u v s wr => ∃ (j : Nat) (sg a b : Int) (A : Option Addr) (c : Nat) (fs : List (Int × Int)), j ≤ 60 ∧ l = .slice A j c ∧ u = .int .i64 a ∧ v = .int .i64 b ∧ s = .int .i64 sg ∧ -1000000000 ≤ a ∧ a ≤ 1000000000 ∧ 1 ≤ b ∧ b ≤ 1000000000 ∧ -1 ≤ sg ∧ sg ≤ 1 ∧
    wr.ownsRow w.heap.size 86 2 (.slice A j c) j (prs fs) ∧ Hid (ExpAt kd p q j sg a b fs) ∧ Hid (∀ z ∈ fs, Rng z.1 ∧ Rng z.2) ∧ Below w.heap.size w wr) (fun l _ _ _ _ => 61 - slN l)
  case atStart => exact ⟨0, 1, p, q, _, 0, [], by omega, rfl, rfl, rfl, rfl, v3, v4, v1, v2, by omega, by omega, HO.out, ExpAt.start _ _ _, (fun z hz => by cases hz), hBq⟩
  case round =>
    obtain ⟨j, sg, a, b, A, c, fs, hj, rfl, rfl, rfl, rfl, a1, a2, b1, b2, g3, g4, hown, HE, HG, hB⟩ := hrel
    clear HO hBq
    have HO := Lib.hid hown
    have HF := Lib.hid hown.lt
    have hbase : w.heap.size ≤ wr.heap.size := hB.size
    obtain ⟨m1, m2, m3, m4⟩ := trmK_bd kd b1 b2 a1 a2
    obtain ⟨l1, l2⟩ := trmK_left kd a b1
    have HT := Lib.hid (fun (w : World) => l04Term_any a b kd w (by omega) (by omega) b1 b2 a1 a2)
    obtain ⟨t, ht⟩ : ∃ t, t = trmK kd a b := ⟨_, rfl⟩
    have HX := Lib.hid ht
    rw [← ht] at m1 m2 m3 m4 l1 l2 HT
    clear hown ht
    by_cases hj60 : j < 60
    · have hjj : decide ((j : Int) < 60) = true := decide_eq_true (by omega)
      by_cases hl : a - t * b = 0
      · have hl0 : (a - t * b == 0) = true := by rw [beq_iff_eq]; exact hl
        have HL := Lib.hid hl
        clear hl
        have hrow := exp_row HG.out (s := sg) (t := t) (by unfold Rng; omega) (by unfold Rng; omega)
        have hfin := HE.out.stop hj60 (by rw [← HX.out]; exact HL.out)
        rw [← HX.out] at hfin
        have HFin := Lib.hid hfin
        have HRow := Lib.hid hrow
        clear hrow hfin
        go_wp2_with fail
        refine (HT.out _).mono ?_
        rintro e w' ⟨rfl, rfl⟩
        go_wp2_with (first | (at_builtin; refine wpList_append_lies _ rfl (.tmp 24) (.tmp 28) 46 rfl w.heap.size 86 i0 (.agg #[.int .i64 0, .int .i64 0]) 2 16 Tryz.underlying46 hi hz0 hz1 hz2 rfl (by decide) _ j (prs fs) (by rfl) (HO.out.alloc _) ⟨wr.heap.size, 0, none⟩ 1 1 [.int .i64 sg, .int .i64 t] (by rfl) rfl ?cells (by simp [Value.oneCell']) (by decide) (by show j + 1 ≤ 9223372036854775807; omega) (by omega) (by simp; omega) (wr.heap.size + 1) (by simp) ?_; rotate_left; intro g cap1 wn hown1 hgrow hat hlt1))
        case cells => exact fun j u hu => newcell (by simp) hu
        rw [show prs fs ++ [Value.int .i64 sg, .int .i64 t] = prs (fs ++ [(sg, t)]) from by rw [prs_append]; rfl] at hown1
        have hbn : Below w.heap.size w wn := (hB.alloc hbase _).grown hgrow (by simp; omega) (fun k hk => (HF.out k hk).1)
        have HS := Lib.hid hown1
        clear hown1 hgrow hat hB
        refine (l04Ok_any _ (j + 1) cap1 (fs ++ [(sg, t)]) _ (PRow.of_own HS.out (by omega) HRow.out)).mono ?_
        rintro e w' ⟨rfl, rfl⟩
        have hO := HS
        have hbv2 := hbn
        clear hbn
        have HN := Lib.hid (own_lenP HS.out)
        go_wp2_with fail
        go_ret2
        unfold ResY
        rw [exs_some HFin.out]
        refine ⟨⟨fs ++ [(sg, t)], _, _, ?_, by rw [HN.out]; exact hO.out, ?_, HRow.out, by rw [HN.out]; omega⟩, hbv2⟩
        · cases hs : sgnB (fs ++ [(sg, t)]) <;> simp only [HN.out] <;> rfl
        · intro l hl
          split at hl
          · injection hl
          · cases hl
      · have hl0 : (a - t * b == 0) = false := by rw [beq_eq_false_iff_ne]; exact hl
        have hlb : 1 ≤ ((a - t * b).natAbs : Int) := by omega
        have hlb2 : ((a - t * b).natAbs : Int) ≤ 1000000000 := by omega
        have hrow := exp_row HG.out (s := sg) (t := t) (by unfold Rng; omega) (by unfold Rng; omega)
        have hfin := HE.out.step hj60 (by rw [← HX.out]; exact hl)
        rw [← HX.out] at hfin
        have HRow := Lib.hid hrow
        have HAb := Lib.hid (fun w => l02Size_any (a - t * b) w (by omega) (by omega))
        rcases (by omega : a - t * b < 0 ∨ 0 < a - t * b) with hn | hn
        · rw [show sgI (a - t * b) = -1 from if_pos hn] at hfin
          have HFin := Lib.hid hfin
          clear hrow hfin hl
          go_wp2_with fail
          refine (HT.out _).mono ?_
          rintro e w' ⟨rfl, rfl⟩
          go_wp2_with (first | (at_builtin; refine wpList_append_lies _ rfl (.tmp 24) (.tmp 28) 46 rfl w.heap.size 86 i0 (.agg #[.int .i64 0, .int .i64 0]) 2 16 Tryz.underlying46 hi hz0 hz1 hz2 rfl (by decide) _ j (prs fs) (by rfl) (HO.out.alloc _) ⟨wr.heap.size, 0, none⟩ 1 1 [.int .i64 sg, .int .i64 t] (by rfl) rfl ?cells (by simp [Value.oneCell']) (by decide) (by show j + 1 ≤ 9223372036854775807; omega) (by omega) (by simp; omega) (wr.heap.size + 1) (by simp) ?_; rotate_left; intro g cap1 wn hown1 hgrow hat hlt1))
          case cells => exact fun j u hu => newcell (by simp) hu
          rw [show prs fs ++ [Value.int .i64 sg, .int .i64 t] = prs (fs ++ [(sg, t)]) from by rw [prs_append]; rfl] at hown1
          have hbn : Below w.heap.size w wn := (hB.alloc hbase _).grown hgrow (by simp; omega) (fun k hk => (HF.out k hk).1)
          have HS := Lib.hid hown1
          clear hown1 hgrow hat hB
          refine (HAb.out _).mono ?_
          rintro e w' ⟨rfl, rfl⟩
          go_wp2_with fail
          go_roundw
          case rel => exact ⟨j + 1, _, _, _, _, _, fs ++ [(sg, t)], by omega, rfl, rfl, rfl, rfl, by omega, by omega, hlb, hlb2, by omega, by omega, HS.out, HFin.out, HRow.out, hbn⟩
          case measure => simp [slN]; omega
        · rw [show sgI (a - t * b) = 1 from by unfold sgI; rw [if_neg (by omega), if_pos hn]] at hfin
          have HFin := Lib.hid hfin
          have hn' : decide (a - t * b < 0) = false := decide_eq_false (by omega)
          clear hrow hfin hl
          go_wp2_with fail
          refine (HT.out _).mono ?_
          rintro e w' ⟨rfl, rfl⟩
          go_wp2_with (first | (at_builtin; refine wpList_append_lies _ rfl (.tmp 24) (.tmp 28) 46 rfl w.heap.size 86 i0 (.agg #[.int .i64 0, .int .i64 0]) 2 16 Tryz.underlying46 hi hz0 hz1 hz2 rfl (by decide) _ j (prs fs) (by rfl) (HO.out.alloc _) ⟨wr.heap.size, 0, none⟩ 1 1 [.int .i64 sg, .int .i64 t] (by rfl) rfl ?cells (by simp [Value.oneCell']) (by decide) (by show j + 1 ≤ 9223372036854775807; omega) (by omega) (by simp; omega) (wr.heap.size + 1) (by simp) ?_; rotate_left; intro g cap1 wn hown1 hgrow hat hlt1))
          case cells => exact fun j u hu => newcell (by simp) hu
          rw [show prs fs ++ [Value.int .i64 sg, .int .i64 t] = prs (fs ++ [(sg, t)]) from by rw [prs_append]; rfl] at hown1
          have hbn : Below w.heap.size w wn := (hB.alloc hbase _).grown hgrow (by simp; omega) (fun k hk => (HF.out k hk).1)
          have HS := Lib.hid hown1
          clear hown1 hgrow hat hB
          refine (HAb.out _).mono ?_
          rintro e w' ⟨rfl, rfl⟩
          go_wp2_with fail
          go_roundw
          case rel => exact ⟨j + 1, _, _, _, _, _, fs ++ [(sg, t)], by omega, rfl, rfl, rfl, rfl, by omega, by omega, hlb, hlb2, by omega, by omega, HS.out, HFin.out, HRow.out, hbn⟩
          case measure => simp [slN]; omega
    · have hjj : decide ((j : Int) < 60) = false := decide_eq_false (by omega)
      have HFin := Lib.hid (exs_none (HE.out.full (by omega)))
      go_wp2_with fail
      go_ret2
      unfold ResY
      rw [HFin.out]
      exact ⟨⟨[], none, 0, rfl, World.ownsRow_nil .., (fun l hl => by cases hl), (fun z hz => by cases hz), by simp⟩, hB⟩
set_option maxHeartbeats 800000 in
theorem specExs_any (p q kd : Int) (w : World) :
    Calls Tryz.prog 20 #[.agg #[.int .i64 p, .int .i64 q], .int .i64 kd] w fun e w' => ResS w.heap.size (exsL p q kd) (exsC p q kd) e w' ∧ Below w.heap.size w w' := by
  have HC := Lib.hid (fun w => l04Code_any p q kd w)
  by_cases h0 : cdeK p q kd = 0
  · obtain ⟨e1, e2⟩ := exs_zero h0
    rw [e1, e2]
    have HE := Lib.hid (fun w => l04Expand_any p q kd w h0)
    rw [h0] at HC
    clear e1 e2
    cases ho : exsO p q kd with
    | none =>
      rw [ho] at HE
      clear h0 ho
      go_enter Tryz.func20, Tryz.ntmps20
      go_wp2_with fail
      refine (HC.out _).mono ?_
      rintro e w1 ⟨rfl, hb1⟩
      obtain ⟨hc1, hf1, hs1⟩ := keepc hb1
      have hB1 : Below w.heap.size w w1 := Below.trans (by go_grown) (hb1.mono (by first | exact Nat.le_refl _ | (simp only [World.size_alloc]; omega)))
      try simp only [World.size_alloc] at hs1
      have hl1_0 : w.heap.size < w1.heap.size := by omega
      go_wp2_with fail
      refine (HE.out _).mono ?_
      rintro e w2 ⟨⟨zs, A2, c2, rfl, ho2, hq, hr, hn⟩, hb2⟩
      obtain ⟨hc2, hf2, hs2⟩ := keepc hb2
      have hB2 : Below w.heap.size w w2 := hB1.trans (hb2.mono (by have := hB1.size; omega))
      have hl2_0 : w.heap.size < w2.heap.size := by omega
      clear ho2 hq hr
      go_wp2_with fail
      go_ret2
      exact ⟨⟨none, 0, rfl, World.ownsRow_nil ..⟩, hB2⟩
    | some l =>
      rw [ho] at HE
      simp only [Option.getD_some, Option.isSome_some, if_true]
      clear h0 ho
      go_enter Tryz.func20, Tryz.ntmps20
      go_wp2_with fail
      refine (HC.out _).mono ?_
      rintro e w1 ⟨rfl, hb1⟩
      obtain ⟨hc1, hf1, hs1⟩ := keepc hb1
      have hB1 : Below w.heap.size w w1 := Below.trans (by go_grown) (hb1.mono (by first | exact Nat.le_refl _ | (simp only [World.size_alloc]; omega)))
      try simp only [World.size_alloc] at hs1
      have hl1_0 : w.heap.size < w1.heap.size := by omega
      go_wp2_with fail
      refine (HE.out _).mono ?_
      rintro e w2 ⟨⟨zs, A2, c2, rfl, ho2, hq, hr, hn⟩, hb2⟩
      obtain ⟨hc2, hf2, hs2⟩ := keepc hb2
      have hB2 : Below w.heap.size w w2 := hB1.trans (hb2.mono (by have := hB1.size; omega))
      have hl2_0 : w.heap.size < w2.heap.size := by omega
      obtain rfl := hq l rfl
      have HO := Lib.hid ho2
      clear ho2 hq hr
      go_wp2_with fail
      go_ret2
      exact ⟨⟨_, _, rfl, own_base HO.out (by omega)⟩, hB2⟩
  · obtain ⟨e1, e2⟩ := exs_code h0
    rw [e1, e2]
    have hne : (cdeK p q kd != 0) = true := by rw [bne_iff_ne]; exact h0
    generalize cdeK p q kd = k at *
    clear e1 e2 h0
    go_enter Tryz.func20, Tryz.ntmps20
    go_wp2_with fail
    refine (HC.out _).mono ?_
    rintro e w1 ⟨rfl, hb1⟩
    obtain ⟨hc1, hf1, hs1⟩ := keepc hb1
    have hB1 : Below w.heap.size w w1 := Below.trans (by go_grown) (hb1.mono (by first | exact Nat.le_refl _ | (simp only [World.size_alloc]; omega)))
    try simp only [World.size_alloc] at hs1
    have hl1_0 : w.heap.size < w1.heap.size := by omega
    go_wp2_with fail
    go_ret2
    exact ⟨⟨none, 0, rfl, World.ownsRow_nil ..⟩, hB1⟩
end Go.Proofs.YtlpglibnjmjjkaaGreatDoor
namespace Go.Proofs.YtlpglibnjmjjkaaGreatDoor
open Go.RowKit
set_option linter.unusedVariables false
attribute [local go_sem ↓] Go.wp_at_zero Go.wp_at_succ

/-- n bytes lie at A. -/
def BRow (w : World) (A : Option Addr) (n : Nat) (xs : List Int) : Prop := xs.length = n ∧ n ≤ 9223372036854775807 ∧ (∀ x ∈ xs, 0 ≤ x ∧ x ≤ 255) ∧ Rd w A (xs.map (Value.int .u8))
/-- A source of choices lies at block g. -/
def Src (w : World) (g : Nat) (A : Option Addr) (n cap at_ : Nat) : Prop :=
  w.cell? ⟨g, 0, none⟩ = some (.slice A n cap) ∧ w.cell? ⟨g, 1, none⟩ = some (.int .i64 at_) ∧ w.frozen? ⟨g, 1, none⟩ = false ∧ w.frozen? ⟨g, 2, none⟩ = false ∧
  ∃ s : Int, 0 ≤ s ∧ s < 18446744073709551616 ∧ w.cell? ⟨g, 2, none⟩ = some (.int .u64 s)

/-- Of what was there nothing but block g has turned. -/
def Kg (g : Nat) (w w' : World) : Prop := w.heap.size ≤ w'.heap.size ∧ ∀ i, i < w.heap.size → i ≠ g → w'.heap[i]? = w.heap[i]?
theorem Kg.refl (g : Nat) (w : World) : Kg g w w := ⟨Nat.le_refl _, fun _ _ _ => rfl⟩
theorem Kg.trans {g : Nat} {w w1 w2 : World} (h : Kg g w w1) (h' : Kg g w1 w2) : Kg g w w2 := ⟨Nat.le_trans h.1 h'.1, fun i hi hg => (h'.2 i (Nat.lt_of_lt_of_le hi h.1) hg).trans (h.2 i hi hg)⟩
theorem Kg.drewN {g : Nat} {w w1 : World} (h : Kg g w w1) (m : Nat) : Kg g w (w1.drewN m) := h
theorem Kg.below {g : Nat} {w w1 w2 : World} (h : Kg g w w1) (hb : Below w1.heap.size w1 w2) : Kg g w w2 := h.trans ⟨hb.size, fun i hi _ => hb.block i hi⟩
theorem Kg.set {g : Nat} {w w1 : World} (h : Kg g w w1) (o : Nat) (v : Value) : Kg g w (w1.setCell ⟨g, o, none⟩ v) := by
  refine ⟨by simpa using h.1, fun i hi hg => ?_⟩
  rw [← h.2 i hi hg]
  exact Below.heap_setCell w1 _ v i hg
theorem Kg.cell {g : Nat} {w w1 : World} (h : Kg g w w1) {p : Addr} (hp : p.block < w.heap.size) (hg : p.block ≠ g) : w1.cell? p = w.cell? p := World.cell?_of_block (w := w) (h.2 p.block hp hg)
theorem Kg.frozen {g : Nat} {w w1 : World} (h : Kg g w w1) {p : Addr} (hp : p.block < w.heap.size) (hg : p.block ≠ g) : w1.frozen? p = w.frozen? p := World.frozen?_of_block (w := w) (h.2 p.block hp hg)

theorem src_set {w0 w : World} {g n cap k B : Nat} {A : Option Addr} (h : Src w g A n cap k) (hB : Below B w0 w) (hg : B ≤ g) (m : Nat) (v : Int) (v0 : 0 ≤ v) (v1 : v < 18446744073709551616) :
    Src (((w.drewN m).setCell ⟨g, 1, none⟩ (.int .i64 ((k : Int) + 1))).setCell ⟨g, 2, none⟩ (.int .u64 v)) g A n cap (k + 1) ∧ Below B w0 (((w.drewN m).setCell ⟨g, 1, none⟩ (.int .i64 ((k : Int) + 1))).setCell ⟨g, 2, none⟩ (.int .u64 v)) ∧ Kg g w (((w.drewN m).setCell ⟨g, 1, none⟩ (.int .i64 ((k : Int) + 1))).setCell ⟨g, 2, none⟩ (.int .u64 v)) := by
  obtain ⟨c0, c1, f1, f2, s, s0, s1, c2⟩ := h
  have d0 : (w.drewN m).cell? ⟨g, 0, none⟩ = some (.slice A n cap) := by simpa using c0
  have d1 : (w.drewN m).cell? ⟨g, 1, none⟩ = some (.int .i64 k) := by simpa using c1
  have d2 : (w.drewN m).cell? ⟨g, 2, none⟩ = some (.int .u64 s) := by simpa using c2
  refine ⟨⟨setO (by simp) (setO (by simp) d0), setO (by simp) (by have := setS (v := .int .i64 ((k : Int) + 1)) d1; exact_mod_cast this), ?_, ?_, v, v0, v1, setS (setO (by simp) d2)⟩, (((hB.trans (below_drewN _ _ _)).setCell (p := ⟨g, 1, none⟩) hg _).setCell (p := ⟨g, 2, none⟩) hg _), (((Kg.refl g w).drewN m).set 1 _).set 2 _⟩
  · simpa using f1
  · simpa using f2

theorem mask255 (x : Int) (h0 : 0 ≤ x) (h1 : x < 9223372036854775808) : 0 ≤ wrap64 (bits .and .u64 x 255) ∧ wrap64 (bits .and .u64 x 255) ≤ 255 := by
  have h := bits_mask .u64 63 (by decide) (fun n h0 h1 => by rw [IntKind.wrap_u64]; omega) 8 (by decide) x h0 (by omega)
  have e : ((2 : Int) ^ 8 - 1) = 255 := by decide
  have e2 : ((2 : Int) ^ 8) = 256 := by decide
  rw [e, e2] at h
  rw [h]
  unfold wrap64
  omega
theorem src_drewN {w : World} {g n cap k : Nat} {A : Option Addr} (h : Src w g A n cap k) (m : Nat) : Src (w.drewN m) g A n cap k := by
  obtain ⟨c0, c1, f1, f2, s, s0, s1, c2⟩ := h
  exact ⟨by simpa using c0, by simpa using c1, by simpa using f1, by simpa using f2, s, s0, s1, by simpa using c2⟩
theorem u64_wrap (z : Int) : 0 ≤ IntKind.u64.wrap z ∧ IntKind.u64.wrap z < 18446744073709551616 := by rw [IntKind.wrap_u64]; omega

set_option maxHeartbeats 1600000 in
theorem next_core (g : Nat) (A : Option Addr) (n cap k B : Nat) (xs : List Int) (w0 w : World) (h : Src w g A n cap k) (hx : BRow w A n xs) (hk : k ≤ 1000) (hB : Below B w0 w) (hg : B ≤ g) :
    Calls Tryz.prog 111 #[.pointer (some ⟨g, 0, none⟩)] w fun e w' => (∃ r : Int, e = .returned (.int .i64 r) ∧ 0 ≤ r ∧ r ≤ 255) ∧ Src w' g A n cap (k + 1) ∧ Below B w0 w' ∧ Kg g w w' := by
  have HS := Lib.hid h
  have HB := Lib.hid hB
  obtain ⟨c0, c1, f1, f2, s, s0, s1, c2⟩ := h
  obtain ⟨xl, xn, xb, xr⟩ := hx
  clear hB
  by_cases hlt : k < n
  · obtain ⟨x, hx⟩ : ∃ x, xs[k]? = some x := ⟨_, List.getElem?_eq_getElem (by omega)⟩
    obtain ⟨ad, rfl, hc⟩ := xr k (.int .u8 x) (by rw [List.getElem?_map, hx]; rfl)
    obtain ⟨x0, x1⟩ := xb x (List.mem_of_getElem? hx)
    clear xr xb hx
    go_enter Tryz.func111, Tryz.ntmps111
    go_wp2_with fail
    go_quiet (fail)
    rename Nat => nq1
    go_wp2_with fail
    go_quiet (fail)
    go_wp2_with fail
    have hu := u64_wrap (IntKind.u64.wrap (IntKind.u64.wrap (s * 6364136223846793005) + x) + 1442695040888963407)
    generalize IntKind.u64.wrap (IntKind.u64.wrap (IntKind.u64.wrap (s * 6364136223846793005) + x) + 1442695040888963407) = v at hu ⊢
    have hSB := src_set HS.out HB.out hg (nq1 + nq) v hu.1 hu.2
    clear c0 c1 f1 f2 c2
    generalize ((w.drewN (nq1 + nq)).setCell ⟨g, 1, none⟩ (.int .i64 ((k : Int) + 1))).setCell ⟨g, 2, none⟩ (.int .u64 v) = W at hSB ⊢
    obtain ⟨hS1, hB1, hK1⟩ := hSB
    have HK1 := Lib.hid hK1
    clear hK1
    have HS1 := Lib.hid hS1
    have HB1 := Lib.hid hB1
    clear hB1
    obtain ⟨c0, c1, f1, f2, s', s0', s1', c2⟩ := hS1
    clear hc
    go_quiet (fail)
    go_wp2_with fail
    go_ret
    exact ⟨⟨_, rfl, x0, x1⟩, src_drewN HS1.out _, HB1.out.trans (below_drewN _ _ _), HK1.out.drewN _⟩
  · go_enter Tryz.func111, Tryz.ntmps111
    go_wp2_with fail
    go_quiet (fail)
    go_wp2_with fail
    have hu := u64_wrap (IntKind.u64.wrap (IntKind.u64.wrap (s * 6364136223846793005)) + 1442695040888963407)
    generalize IntKind.u64.wrap (IntKind.u64.wrap (IntKind.u64.wrap (s * 6364136223846793005)) + 1442695040888963407) = v at hu ⊢
    have hSB := src_set HS.out HB.out hg nq v hu.1 hu.2
    clear c0 c1 f1 f2 c2
    generalize ((w.drewN nq).setCell ⟨g, 1, none⟩ (.int .i64 ((k : Int) + 1))).setCell ⟨g, 2, none⟩ (.int .u64 v) = W at hSB ⊢
    obtain ⟨hS1, hB1, hK1⟩ := hSB
    have HK1 := Lib.hid hK1
    clear hK1
    have HS1 := Lib.hid hS1
    have HB1 := Lib.hid hB1
    clear hB1
    obtain ⟨c0, c1, f1, f2, s', s0', s1', c2⟩ := hS1
    go_quiet (fail)
    go_wp2_with fail
    go_ret
    have hm := mask255 (s' / 1099511627776) (by omega) (by omega)
    exact ⟨⟨_, rfl, hm.1, hm.2⟩, src_drewN HS1.out _, HB1.out.trans (below_drewN _ _ _), HK1.out.drewN _⟩


theorem BRow.below {w w' : World} {A : Option Addr} {n : Nat} {xs : List Int} (h : BRow w A n xs) (hb : Below w.heap.size w w') : BRow w' A n xs :=
  ⟨h.1, h.2.1, h.2.2.1, h.2.2.2.below hb⟩
/-- A source, K choices at most behind its start; of what was there when it was made nothing has turned. -/
def St (g : Nat) (A : Option Addr) (n cap K : Nat) (w0 w : World) : Prop := (∃ k, k ≤ K ∧ Src w g A n cap k) ∧ Below w0.heap.size w0 w
theorem St.mono {g : Nat} {A : Option Addr} {n cap K K' : Nat} {w0 w : World} (h : St g A n cap K w0 w) (hk : K ≤ K') : St g A n cap K' w0 w := by
  obtain ⟨⟨k, h1, h2⟩, h3⟩ := h
  exact ⟨⟨k, Nat.le_trans h1 hk, h2⟩, h3⟩
theorem Src.kept {g : Nat} {A : Option Addr} {n cap k : Nat} {w w' : World} (h : Src w g A n cap k) (hb : Below w.heap.size w w') : Src w' g A n cap k := by
  have hl := World.block_lt_of_cell? w _ h.1
  obtain ⟨c0, c1, f1, f2, s, s0, s1, c2⟩ := h
  exact ⟨(hb.cell (p := ⟨g, 0, none⟩) hl).trans c0, (hb.cell (p := ⟨g, 1, none⟩) hl).trans c1, (hb.frozen (p := ⟨g, 1, none⟩) hl).trans f1, (hb.frozen (p := ⟨g, 2, none⟩) hl).trans f2, s, s0, s1, (hb.cell (p := ⟨g, 2, none⟩) hl).trans c2⟩
theorem St.below {g : Nat} {A : Option Addr} {n cap K : Nat} {w0 w w' : World} (h : St g A n cap K w0 w) (hb : Below w.heap.size w w') : St g A n cap K w0 w' := by
  obtain ⟨⟨k, h1, h2⟩, h3⟩ := h
  exact ⟨⟨k, h1, h2.kept hb⟩, h3.trans (hb.mono h3.size)⟩
theorem Kg.other {g : Nat} {w w1 : World} (h : Kg g w w1) {b : Nat} (hb : w.heap.size ≤ b) (o : Nat) (v : Value) : Kg g w (w1.setCell ⟨b, o, none⟩ v) := by
  refine ⟨by simpa using h.1, fun i hi hg => ?_⟩
  rw [← h.2 i hi hg]
  exact Below.heap_setCell w1 _ v i (by show i ≠ b; omega)
theorem St.set {g : Nat} {A : Option Addr} {n cap K : Nat} {w0 w : World} (h : St g A n cap K w0 w) {b : Nat} (hne : g ≠ b) (hb : w0.heap.size ≤ b) (o : Nat) (v : Value) : St g A n cap K w0 (w.setCell ⟨b, o, none⟩ v) := by
  obtain ⟨⟨k, h1, c0, c1, f1, f2, s, s0, s1, c2⟩, h3⟩ := h
  have e : ∀ j, (⟨b, o, none⟩ : Addr) ≠ ⟨g, j, none⟩ := fun j e => by injection e with e; exact hne e.symm
  exact ⟨⟨k, h1, setO (e 0) c0, setO (e 1) c1, setF f1, setF f2, s, s0, s1, setO (e 2) c2⟩, h3.setCell (p := ⟨b, o, none⟩) hb _⟩
theorem St.lt {g : Nat} {A : Option Addr} {n cap K : Nat} {w0 w : World} (h : St g A n cap K w0 w) : g < w.heap.size := by
  obtain ⟨⟨k, _, h2⟩, _⟩ := h
  exact World.block_lt_of_cell? w _ h2.1
theorem next_any (g : Nat) (A : Option Addr) (n cap K : Nat) (xs : List Int) (w0 w : World) (h : St g A n cap K w0 w) (hx : BRow w0 A n xs) (hk : K ≤ 1000) (hg : w0.heap.size ≤ g) :
    Calls Tryz.prog 111 #[.pointer (some ⟨g, 0, none⟩)] w fun e w' => (∃ r : Int, e = .returned (.int .i64 r) ∧ 0 ≤ r ∧ r ≤ 255) ∧ St g A n cap (K + 1) w0 w' ∧ Kg g w w' := by
  obtain ⟨⟨k, h1, h2⟩, h3⟩ := h
  refine (next_core g A n cap k _ xs w0 w h2 (hx.below h3) (by omega) h3 hg).mono ?_
  rintro e w' ⟨hr, hs, hb, hk'⟩
  exact ⟨hr, ⟨⟨k + 1, by omega, hs⟩, hb⟩, hk'⟩
set_option maxHeartbeats 1600000 in
theorem pick_any (g : Nat) (A : Option Addr) (n cap K : Nat) (xs : List Int) (m : Int) (w0 w : World) (h : St g A n cap K w0 w) (hx : BRow w0 A n xs) (hk : K ≤ 900) (hg : w0.heap.size ≤ g) (h1 : 1 ≤ m) (h2 : m ≤ 60000) :
    Calls Tryz.prog 76 #[.pointer (some ⟨g, 0, none⟩), .int .i64 m] w fun e w' => (∃ r : Int, e = .returned (.int .i64 r) ∧ 0 ≤ r ∧ r < m) ∧ St g A n cap (K + 2) w0 w' ∧ Kg g w w' := by
  have HX := Lib.hid hx
  have H := Lib.hid h
  clear hx h
  by_cases hm : m ≤ 1
  · go_enter Tryz.func76, Tryz.ntmps76
    go_wp2_with fail
    go_ret
    exact ⟨⟨0, rfl, by omega, by omega⟩, H.out.mono (by omega), Kg.refl _ _⟩
  · have HM := fun r => Int.emod_nonneg r (show m ≠ 0 by omega)
    have HM' := fun r => Int.emod_lt_of_pos r (show 0 < m by omega)
    replace HM := Lib.hid HM
    replace HM' := Lib.hid HM'
    by_cases hm2 : (200 : Int) < m
    · go_enter Tryz.func76, Tryz.ntmps76
      go_wp2_with fail
      refine (next_any g A n cap K xs w0 w H.out HX.out (by omega) hg).mono ?_
      rintro e w1 ⟨⟨r, rfl, r0, r1⟩, hs1, hk1⟩
      have H1 := Lib.hid hs1
      have K1 := Lib.hid hk1
      clear hs1 hk1 H
      go_wp2_with fail
      refine (next_any g A n cap (K + 1) xs w0 w1 H1.out HX.out (by omega) hg).mono ?_
      rintro e w2 ⟨⟨r', rfl, r0', r1'⟩, hs2, hk2⟩
      have H2 := Lib.hid hs2
      have K2 := Lib.hid hk2
      clear hs2 hk2
      go_wp2_with fail
      go_ret
      exact ⟨⟨_, rfl, HM.out _, HM'.out _⟩, H2.out, K1.out.trans K2.out⟩
    · go_enter Tryz.func76, Tryz.ntmps76
      go_wp2_with fail
      refine (next_any g A n cap K xs w0 w H.out HX.out (by omega) hg).mono ?_
      rintro e w1 ⟨⟨r, rfl, r0, r1⟩, hs1, hk1⟩
      have H1 := Lib.hid hs1
      have K1 := Lib.hid hk1
      clear hs1 hk1 H
      go_wp2_with fail
      go_ret
      exact ⟨⟨_, rfl, HM.out _, HM'.out _⟩, H1.out.mono (by omega), K1.out⟩
theorem one_any (g : Nat) (A : Option Addr) (n cap K : Nat) (xs : List Int) (m : Int) (w0 w : World) (h : St g A n cap K w0 w) (hx : BRow w0 A n xs) (hk : K ≤ 900) (hg : w0.heap.size ≤ g) (h1 : 1 ≤ m) (h2 : m ≤ 60000) :
    Calls Tryz.prog 72 #[.pointer (some ⟨g, 0, none⟩), .int .i64 m] w fun e w' => (∃ b : Bool, e = .returned (.bool b)) ∧ St g A n cap (K + 2) w0 w' ∧ Kg g w w' := by
  have HP := Lib.hid (pick_any g A n cap K xs m w0 w h hx hk hg h1 h2)
  clear h hx
  go_enter Tryz.func72, Tryz.ntmps72
  go_wp2_with fail
  refine HP.out.mono ?_
  rintro e w1 ⟨⟨r, rfl, r0, r1⟩, hs1, hk1⟩
  have H1 := Lib.hid hs1
  have K1 := Lib.hid hk1
  clear hs1 hk1
  go_wp2_with fail
  go_ret
  exact ⟨⟨_, rfl⟩, H1.out, K1.out⟩
theorem l00From_any (A : Option Addr) (n cap : Nat) (w : World) :
    Calls Tryz.prog 39 #[.slice A n cap] w fun e w' => e = .returned (.pointer (some ⟨w.heap.size, 0, none⟩)) ∧ St w.heap.size A n cap 0 w w' := by
  go_enter Tryz.func39, Tryz.ntmps39
  go_wp2_with fail
  go_ret
  exact ⟨rfl, ⟨0, Nat.le_refl _, by simp [go_sem], by simp [go_sem], by simp, by simp, 0, by omega, by omega, by simp [go_sem]⟩, (Below.refl _ _).alloc (Nat.le_refl _) _⟩

theorem make_ok {num den : Int} (h1 : -300 ≤ num) (h2 : num ≤ 300) (h3 : 1 ≤ den) (h4 : den ≤ 300) :
    vfB (num.tdiv (Int.gcd num den : Nat)) (den.tdiv (Int.gcd num den : Nat)) = true ∧ -300 ≤ num.tdiv (Int.gcd num den : Nat) ∧ num.tdiv (Int.gcd num den : Nat) ≤ 300 ∧ den.tdiv (Int.gcd num den : Nat) ≤ 300 := by
  have hg : 0 < Int.gcd num den := gcd_pos (a := num) (.inr (show 0 < den by omega))
  have e1 : num.tdiv (Int.gcd num den : Nat) = num / (Int.gcd num den : Nat) := Int.tdiv_eq_ediv_of_dvd (Int.gcd_dvd_left ..)
  have e2 : den.tdiv (Int.gcd num den : Nat) = den / (Int.gcd num den : Nat) := Int.tdiv_eq_ediv_of_dvd (Int.gcd_dvd_right ..)
  have hc : Int.gcd (num / (Int.gcd num den : Nat)) (den / (Int.gcd num den : Nat)) = 1 := Int.gcd_ediv_gcd_ediv_gcd hg
  have b1 := tdiv_bd num (Int.gcd num den : Nat)
  have b2 := tdiv_bd den (Int.gcd num den : Nat)
  have hd : den / (Int.gcd num den : Nat) * (Int.gcd num den : Nat) = den := Int.ediv_mul_cancel (Int.gcd_dvd_right ..)
  have hp : 1 ≤ den / (Int.gcd num den : Nat) := by
    rcases Int.lt_or_le (den / (Int.gcd num den : Nat)) 1 with hl | hl
    · exfalso
      have : den / (Int.gcd num den : Nat) * (Int.gcd num den : Nat) ≤ 0 * (Int.gcd num den : Nat) := Int.mul_le_mul_of_nonneg_right (by omega) (by omega)
      omega
    · exact hl
  rw [e1, e2] at *
  refine ⟨vfB_iff.2 ⟨hp, by omega, by omega, by omega, hc⟩, by omega, by omega, by omega⟩
/-- A drawn fraction. -/
def DrwF (x y : Int) : Prop := vfB x y = true ∧ -300 ≤ x ∧ x ≤ 300 ∧ y ≤ 300
set_option maxHeartbeats 1600000 in
theorem l02Draw_any (g : Nat) (A : Option Addr) (n cap K : Nat) (xs : List Int) (w0 w : World) (h : St g A n cap K w0 w) (hx : BRow w0 A n xs) (hk : K ≤ 800) (hg : w0.heap.size ≤ g) :
    Calls Tryz.prog 40 #[.pointer (some ⟨g, 0, none⟩), .int .i64 300] w fun e w' => (∃ x y : Int, e = .returned (.agg #[.int .i64 x, .int .i64 y]) ∧ DrwF x y) ∧ St g A n cap (K + 8) w0 w' ∧ Kg g w w' := by
  have hgl := h.lt
  have HX := Lib.hid hx
  have H := Lib.hid (h.below (((Below.refl _ _).alloc (Nat.le_refl _) (.cells #[.int .i64 0, .int .i64 0] 25)) : Below w.heap.size w _))
  have K0 := Lib.hid ((Kg.refl g w).below ((Below.refl _ _).alloc (Nat.le_refl _) (.cells #[.int .i64 0, .int .i64 0] 25)))
  have Z0 := Lib.hid (show ∀ k, k < 2 → (w.alloc (.cells #[.int .i64 0, .int .i64 0] 25)).cell? ⟨w.heap.size, k, none⟩ = some (.int .i64 0) ∧ (w.alloc (.cells #[.int .i64 0, .int .i64 0] 25)).frozen? ⟨w.heap.size, k, none⟩ = false from fun k hk => by
    rcases (by omega : k = 0 ∨ k = 1) with rfl | rfl
    · exact ⟨newcellA rfl rfl, by simp⟩
    · exact ⟨newcellA rfl rfl, by simp⟩)
  clear hx h
  go_enter Tryz.func40, Tryz.ntmps40
  go_wp2_with fail
  refine (pick_any g A n cap K xs 601 w0 _ H.out HX.out (by omega) hg (by omega) (by omega)).mono ?_
  rintro e w1 ⟨⟨r1, rfl, a1, a2⟩, hs1, hk1⟩
  have H1 := Lib.hid hs1
  have K1 := Lib.hid (K0.out.trans hk1)
  have Z1 := Lib.hid (show ∀ k, k < 2 → w1.cell? ⟨w.heap.size, k, none⟩ = some (.int .i64 0) ∧ w1.frozen? ⟨w.heap.size, k, none⟩ = false from fun k hk => ⟨(hk1.cell (p := ⟨w.heap.size, k, none⟩) (by simp) (by simp; omega)).trans (Z0.out k hk).1, (hk1.frozen (p := ⟨w.heap.size, k, none⟩) (by simp) (by simp; omega)).trans (Z0.out k hk).2⟩)
  have l1 : w.heap.size < w1.heap.size := by have := hk1.1; simp at this; omega
  clear hs1 hk1 H K0 Z0
  go_wp2_with fail
  refine (one_any g A n cap (K + 2) xs 2 w0 _ H1.out HX.out (by omega) hg (by omega) (by omega)).mono ?_
  rintro e w2 ⟨⟨b, rfl⟩, hs2, hk2⟩
  have H2 := Lib.hid hs2
  have K2 := Lib.hid (K1.out.trans hk2)
  have Z2 := Lib.hid (show ∀ k, k < 2 → w2.cell? ⟨w.heap.size, k, none⟩ = some (.int .i64 0) ∧ w2.frozen? ⟨w.heap.size, k, none⟩ = false from fun k hk => ⟨(hk2.cell (p := ⟨w.heap.size, k, none⟩) l1 (by simp; omega)).trans (Z1.out k hk).1, (hk2.frozen (p := ⟨w.heap.size, k, none⟩) l1 (by simp; omega)).trans (Z1.out k hk).2⟩)
  have l2 : w.heap.size < w2.heap.size := Nat.lt_of_lt_of_le l1 hk2.1
  clear hs2 hk2 H1 K1 Z1
  cases b
  · go_wp2_with fail
    refine (pick_any g A n cap (K + 4) xs 300 w0 _ H2.out HX.out (by omega) hg (by omega) (by omega)).mono ?_
    rintro e w3 ⟨⟨r9, rfl, a3, a4⟩, hs3, hk3⟩
    have H3 := Lib.hid hs3
    have K3 := Lib.hid (K2.out.trans hk3)
    have Z3 := Lib.hid (show ∀ k, k < 2 → w3.cell? ⟨w.heap.size, k, none⟩ = some (.int .i64 0) ∧ w3.frozen? ⟨w.heap.size, k, none⟩ = false from fun k hk => ⟨(hk3.cell (p := ⟨w.heap.size, k, none⟩) l2 (by simp; omega)).trans (Z2.out k hk).1, (hk3.frozen (p := ⟨w.heap.size, k, none⟩) l2 (by simp; omega)).trans (Z2.out k hk).2⟩)
    have l3 : w.heap.size < w3.heap.size := Nat.lt_of_lt_of_le l2 hk3.1
    clear hs3 hk3 H2 K2 Z2
    go_wp2_with fail
    refine (l02Make_any (r1 - 300) (1 + r9) _ (by omega) (by omega) (by omega) (by omega)).mono ?_
    obtain ⟨m1, m2, m3, m4⟩ := make_ok (num := r1 - 300) (den := 1 + r9) (by omega) (by omega) (by omega) (by omega)
    generalize (r1 - 300).tdiv (Int.gcd (r1 - 300) (1 + r9) : Nat) = x at *
    generalize (1 + r9).tdiv (Int.gcd (r1 - 300) (1 + r9) : Nat) = y at *
    have HD := Lib.hid (show DrwF x y from ⟨m1, m2, m3, m4⟩)
    clear m1 m2 m3 m4
    rintro e w10 ⟨rfl, hb⟩
    have H10 := Lib.hid (H3.out.below hb)
    have K10 := Lib.hid (K3.out.below hb)
    have z0 : w10.cell? ⟨w.heap.size, 0, none⟩ = some (.int .i64 0) := (hb.cell (p := ⟨w.heap.size, 0, none⟩) l3).trans (Z3.out 0 (by omega)).1
    have z1 : w10.cell? ⟨w.heap.size, 1, none⟩ = some (.int .i64 0) := (hb.cell (p := ⟨w.heap.size, 1, none⟩) l3).trans (Z3.out 1 (by omega)).1
    have f0 : w10.frozen? ⟨w.heap.size, 0, none⟩ = false := (hb.frozen (p := ⟨w.heap.size, 0, none⟩) l3).trans (Z3.out 0 (by omega)).2
    have f1 : w10.frozen? ⟨w.heap.size, 1, none⟩ = false := (hb.frozen (p := ⟨w.heap.size, 1, none⟩) l3).trans (Z3.out 1 (by omega)).2
    clear hb H3 K3 Z3
    go_wp2_with fail
    exact bodyPost_ret (v := .agg #[.int .i64 x, .int .i64 y]) (by simp [results, Tryz.results40, go_sem, pair_set z0 z1]) rfl ⟨⟨x, y, rfl, HD.out⟩, ((H10.out.set (b := w.heap.size) (by omega) (by have := H10.out.2.size; omega) 0 _).set (b := w.heap.size) (by omega) (by omega) 1 _).mono (by omega), (K10.out.other (Nat.le_refl _) 0 _).other (Nat.le_refl _) 1 _⟩
  · go_wp2_with fail
    refine (pick_any g A n cap (K + 4) xs 301 w0 _ H2.out HX.out (by omega) hg (by omega) (by omega)).mono ?_
    rintro e w3 ⟨⟨r2, rfl, a3, a4⟩, hs3, hk3⟩
    have H3 := Lib.hid hs3
    have K3 := Lib.hid (K2.out.trans hk3)
    have Z3 := Lib.hid (show ∀ k, k < 2 → w3.cell? ⟨w.heap.size, k, none⟩ = some (.int .i64 0) ∧ w3.frozen? ⟨w.heap.size, k, none⟩ = false from fun k hk => ⟨(hk3.cell (p := ⟨w.heap.size, k, none⟩) l2 (by simp; omega)).trans (Z2.out k hk).1, (hk3.frozen (p := ⟨w.heap.size, k, none⟩) l2 (by simp; omega)).trans (Z2.out k hk).2⟩)
    have l3 : w.heap.size < w3.heap.size := Nat.lt_of_lt_of_le l2 hk3.1
    clear hs3 hk3 H2 K2 Z2
    go_wp2_with fail
    refine (pick_any g A n cap (K + 6) xs 300 w0 _ H3.out HX.out (by omega) hg (by omega) (by omega)).mono ?_
    rintro e w4 ⟨⟨r9, rfl, a5, a6⟩, hs4, hk4⟩
    have H4 := Lib.hid hs4
    have K4 := Lib.hid (K3.out.trans hk4)
    have Z4 := Lib.hid (show ∀ k, k < 2 → w4.cell? ⟨w.heap.size, k, none⟩ = some (.int .i64 0) ∧ w4.frozen? ⟨w.heap.size, k, none⟩ = false from fun k hk => ⟨(hk4.cell (p := ⟨w.heap.size, k, none⟩) l3 (by simp; omega)).trans (Z3.out k hk).1, (hk4.frozen (p := ⟨w.heap.size, k, none⟩) l3 (by simp; omega)).trans (Z3.out k hk).2⟩)
    have l4 : w.heap.size < w4.heap.size := Nat.lt_of_lt_of_le l3 hk4.1
    clear hs4 hk4 H3 K3 Z3
    go_wp2_with fail
    refine (l02Make_any r2 (1 + r9) _ (by omega) (by omega) (by omega) (by omega)).mono ?_
    obtain ⟨m1, m2, m3, m4⟩ := make_ok (num := r2) (den := 1 + r9) (by omega) (by omega) (by omega) (by omega)
    generalize (r2).tdiv (Int.gcd (r2) (1 + r9) : Nat) = x at *
    generalize (1 + r9).tdiv (Int.gcd (r2) (1 + r9) : Nat) = y at *
    have HD := Lib.hid (show DrwF x y from ⟨m1, m2, m3, m4⟩)
    clear m1 m2 m3 m4
    rintro e w10 ⟨rfl, hb⟩
    have H10 := Lib.hid (H4.out.below hb)
    have K10 := Lib.hid (K4.out.below hb)
    have z0 : w10.cell? ⟨w.heap.size, 0, none⟩ = some (.int .i64 0) := (hb.cell (p := ⟨w.heap.size, 0, none⟩) l4).trans (Z4.out 0 (by omega)).1
    have z1 : w10.cell? ⟨w.heap.size, 1, none⟩ = some (.int .i64 0) := (hb.cell (p := ⟨w.heap.size, 1, none⟩) l4).trans (Z4.out 1 (by omega)).1
    have f0 : w10.frozen? ⟨w.heap.size, 0, none⟩ = false := (hb.frozen (p := ⟨w.heap.size, 0, none⟩) l4).trans (Z4.out 0 (by omega)).2
    have f1 : w10.frozen? ⟨w.heap.size, 1, none⟩ = false := (hb.frozen (p := ⟨w.heap.size, 1, none⟩) l4).trans (Z4.out 1 (by omega)).2
    clear hb H4 K4 Z4
    go_wp2_with fail
    exact bodyPost_ret (v := .agg #[.int .i64 x, .int .i64 y]) (by simp [results, Tryz.results40, go_sem, pair_set z0 z1]) rfl ⟨⟨x, y, rfl, HD.out⟩, ((H10.out.set (b := w.heap.size) (by omega) (by have := H10.out.2.size; omega) 0 _).set (b := w.heap.size) (by omega) (by omega) 1 _).mono (by omega), (K10.out.other (Nat.le_refl _) 0 _).other (Nat.le_refl _) 1 _⟩
end Go.Proofs.YtlpglibnjmjjkaaGreatDoor
