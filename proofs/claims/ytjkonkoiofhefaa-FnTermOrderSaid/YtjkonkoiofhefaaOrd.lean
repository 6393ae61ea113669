/-
  Terms are ordered as their values are: plain laws; the walk of the law FnTermOrder.
  No condition but those of the law's own text.
-/
import Derived.Test.YtjkonkoiofhefaaProg
import Derived.Test.YtjkonkoiofhefaaMem
import Derived.Test.YtjkonkoiofhefaaBasic
import Derived.Test.YtjkonkoiofhefaaAllk
import Derived.Test.YtjkonkoiofhefaaInts
import Derived.Test.YtjkonkoiofhefaaSig
import Derived.Test.YtjkonkoiofhefaaFrac
import Derived.Test.YtjkonkoiofhefaaFrac2
import Derived.Test.YtjkonkoiofhefaaFrac5
import Derived.Test.YtjkonkoiofhefaaOwn
import Derived.Test.YtjkonkoiofhefaaShort
import Derived.Test.YtjkonkoiofhefaaExp
import Derived.Test.YtjkonkoiofhefaaOtf
import Derived.Test.YtjkonkoiofhefaaCmp
import Derived.Test.YtjkonkoiofhefaaPthM
import Derived.Test.YtjkonkoiofhefaaCmn
import Derived.Test.YtjkonkoiofhefaaSrc
import Derived.Test.YtjkonkoiofhefaaDrw
import Derived.Test.YtjkonkoiofhefaaByt
import Derived.Handy
import Derived.BigQuiet
import Derived.Deep.QuietTactic
namespace Go.Proofs.Ytjkonkoiofhefaa
open Go.RowKit
set_option linter.unusedVariables false
set_option linter.unusedSimpArgs false
attribute [local go_sem ↓] Go.wp_at_zero Go.wp_at_succ

theorem cmpI_lt {x y : Int} (h : x < y) : cmpI x y = -1 := if_pos h
theorem cmpI_gt {x y : Int} (h : y < x) : cmpI x y = 1 := by unfold cmpI; rw [if_neg (show ¬ x < y by omega), if_pos h]
theorem cmpI_eq (x : Int) : cmpI x x = 0 := by unfold cmpI; simp
theorem cmpI_sub {x y u v : Int} (h : x - y = u - v) : cmpI x y = cmpI u v := by
  rcases (by omega : x < y ∨ y < x ∨ x = y) with h1 | h1 | h1
  · rw [cmpI_lt h1, cmpI_lt (show u < v by omega)]
  · rw [cmpI_gt h1, cmpI_gt (show v < u by omega)]
  · have h2 : u = v := by omega
    subst h1 h2
    rw [cmpI_eq, cmpI_eq]
theorem cmpI_neg (x y : Int) : cmpI x y = - cmpI y x := by
  rcases (by omega : x < y ∨ y < x ∨ x = y) with h | h | h
  · rw [cmpI_lt h, cmpI_gt h]
  · rw [cmpI_gt h, cmpI_lt h]; rfl
  · subst h; rw [cmpI_eq]; rfl
theorem cmpT_self : ∀ (l : List Int) (s : Int), cmpT s l l = 0
  | [], _ => rfl
  | x :: l, s => by rw [cmpT, if_neg (by omega), if_neg (by omega), cmpT_self l]
theorem floor_lt {p r : Int} {d e : Nat} (hd : 0 < d) (he : 0 < e) (h : p / (d : Int) < r / (e : Int)) : p * e < r * d := by
  have h1 := quo_mul p hd
  have h2 := mod_bd p hd
  have h3 := quo_mul r he
  have h4 := mod_bd r he
  generalize p / (d : Int) = a at *
  generalize r / (e : Int) = b at *
  generalize p % (d : Int) = x at *
  generalize r % (e : Int) = y at *
  have hp : p = a * d + x := by omega
  have hr : r = b * e + y := by omega
  have hde : 0 < (d : Int) * e := Int.mul_pos (by omega) (by omega)
  have k1 : x * e < d * e := Int.mul_lt_mul_of_pos_right (by omega) (by omega)
  have k2 : 0 ≤ y * d := Int.mul_nonneg (by omega) (by omega)
  have k3 : (a + 1) * (d * e) ≤ b * (d * e) := Int.mul_le_mul_of_nonneg_right (by omega) (by omega)
  have e1 : p * e = a * (d * e) + x * e := by rw [hp]; grind
  have e2 : r * d = b * (d * e) + y * d := by rw [hr]; grind
  have e3 : (a + 1) * (d * e : Int) = a * (d * e) + d * e := by grind
  omega
/-- The order of the terms is that of the values. -/
theorem cmpT_expN (d : Nat) : ∀ (e : Nat) (p r s : Int), 0 < d → 0 < e → cmpT s (expN p d) (expN r e) = s * cmpI (p * e) (r * d) := by
  induction d using Nat.strongRecOn with
  | ind d ih =>
    intro e p r s hd he
    rw [expN_pos hd, expN_pos he, cmpT]
    rcases (by omega : p / (d : Int) < r / (e : Int) ∨ r / (e : Int) < p / (d : Int) ∨ p / (d : Int) = r / (e : Int)) with h | h | h
    · rw [if_pos h, show cmpI (p * e) (r * d) = -1 from if_pos (floor_lt hd he h)]; omega
    · have hl := floor_lt he hd h
      rw [if_neg (by omega), if_pos h, show cmpI (p * e) (r * d) = 1 from by unfold cmpI; rw [if_neg (by omega), if_pos hl]]; omega
    · rw [if_neg (by omega), if_neg (by omega)]
      have h1 := quo_mul p hd
      have h2 := mod_bd p hd
      have h3 := quo_mul r he
      have h4 := mod_bd r he
      rw [h] at h1
      generalize r / (e : Int) = b at *
      have hx : ((p % (d : Int)).toNat : Int) = p % (d : Int) := Int.toNat_of_nonneg h2.1
      have hy : ((r % (e : Int)).toNat : Int) = r % (e : Int) := Int.toNat_of_nonneg h4.1
      generalize (p % (d : Int)).toNat = x at *
      generalize (r % (e : Int)).toNat = y at *
      rw [← hx] at h1 h2
      rw [← hy] at h3 h4
      have hp : p = b * d + x := by omega
      have hr : r = b * e + y := by omega
      have hdiff : p * e - r * d = (e : Int) * x - d * y := by rw [hp, hr]; grind
      rcases Nat.eq_zero_or_pos x with hx0 | hx0
      · rcases Nat.eq_zero_or_pos y with hy0 | hy0
        · subst hx0 hy0
          rw [expN_zero, expN_zero, cmpI_sub (u := 0) (v := 0) (by simpa using hdiff)]
          simp [cmpT, cmpI]
        · subst hx0
          have : 0 < (d : Int) * y := Int.mul_pos (by omega) (by omega)
          rw [expN_zero, expN_pos hy0, show cmpI (p * e) (r * d) = -1 from if_pos (by have := hdiff; simp at this; omega)]
          simp [cmpT]
      · rcases Nat.eq_zero_or_pos y with hy0 | hy0
        · subst hy0
          have : 0 < (e : Int) * x := Int.mul_pos (by omega) (by omega)
          rw [expN_zero, expN_pos hx0, show cmpI (p * e) (r * d) = 1 from by unfold cmpI; rw [if_neg (by have := hdiff; simp at this; omega), if_pos (by have := hdiff; simp at this; omega)]]
          simp [cmpT]
        · rw [ih x (by omega) y d e (-s) hx0 hy0, cmpI_sub (x := p * e) (y := r * d) (u := e * x) (v := d * y) hdiff, cmpI_neg (e * x) (d * y)]
          grind
theorem shL_ot {zs : List Int} {m : Nat} {z : Int} (hl : zs.length = m + 1) (hz : zs[m]? = some z) : shL (zs.set m (z - 1) ++ [1]) = zs := by
  have h1 : (zs.set m (z - 1) ++ [1]).length = m + 2 := by simp [hl]
  have h2 : (zs.set m (z - 1) ++ [1])[m + 2 - 1]? = some 1 := by
    rw [List.getElem?_append_right (by simp [hl])]; simp [hl]
  have h3 : (zs.set m (z - 1) ++ [1])[m + 2 - 2]? = some (z - 1) := by
    rw [List.getElem?_append_left (by simp [hl]), List.getElem?_set]; simp [hl]
  rw [shL_t h1 (by omega) h2 h3]
  apply List.ext_getElem?
  intro j
  rw [List.getElem?_set, List.length_take, h1]
  by_cases hj : m + 2 - 2 = j
  · rw [if_pos hj, if_pos (by omega)]
    have : j = m := by omega
    rw [this, hz]; simp
  · rw [if_neg hj, List.getElem?_take]
    by_cases hj2 : j < m + 2 - 1
    · rw [if_pos hj2, List.getElem?_append_left (by simp [hl]; omega), List.getElem?_set, if_neg (by omega)]
    · rw [if_neg hj2, List.getElem?_eq_none (by omega)]
theorem terms_ok {x : Int} {d : Nat} (hx1 : -300 ≤ x) (hx2 : x ≤ 300) (hd : 0 < d) (hd2 : d ≤ 300) :
    trmB (expN x d) = true ∧ shL (expN x d) = expN x d ∧ otfC (expN x d) = 0 ∧ trmB (otfL (expN x d)) = true ∧ shL (otfL (expN x d)) = expN x d := by
  obtain ⟨m, hm⟩ : ∃ m, (expN x d).length = m + 1 := ⟨(expN x d).length - 1, by have := List.length_pos_iff.2 (expN_ne (a := x) hd); omega⟩
  obtain ⟨z, hz⟩ : ∃ z, (expN x d)[m]? = some z := ⟨_, List.getElem?_eq_getElem (by omega)⟩
  have hb := expN_rng d x (by omega) (by omega) (by omega)
  have hl := expN_log 9 x d (by omega)
  have hge := expN_ge d x hd
  have hhead : ∀ y, (expN x d)[0]? = some y → -300 ≤ y := by
    intro y hy
    rw [expN_pos hd] at hy
    simp at hy
    have h1 := quo_mul x hd
    have h2 := mod_bd x hd
    rw [← hy]
    rcases Int.lt_or_le (x / (d : Int)) (-300) with h | h
    · exfalso
      have : x / (d : Int) * d ≤ (-301) * d := Int.mul_le_mul_of_nonneg_right (by omega) (by omega)
      omega
    · exact h
  have hlast : 1 ≤ m → 2 ≤ z := by
    intro h1
    have hmd := mod_bd x hd
    rcases Nat.eq_zero_or_pos (x % (d : Int)).toNat with he | he
    · rw [expN_pos hd, he, expN_zero] at hm; simp at hm; omega
    · have hla : (expN x d).getLast? = some z := by rw [List.getLast?_eq_getElem?, hm]; exact hz
      rw [expN_pos hd, List.getLast?_cons_of_ne_nil (expN_ne he)] at hla
      exact expN_last _ d he (by omega) z hla
  have ht : trmB (expN x d) = true := trmB_iff.2 ⟨by omega, by omega, fun k y hy => by
    have h1 := hb y (List.mem_of_getElem? hy)
    cases k with
    | zero => simp; omega
    | succ k => have := hge k y hy; simp; omega⟩
  have hs : shL (expN x d) = expN x d := shL_f (by
    rintro ⟨h1, h2⟩
    rw [hm] at h1 h2
    have := expN_one hd hm (by simpa using h2)
    omega)
  have hsb : shB (expN x d) = false := by
    unfold shB
    rw [decide_eq_false_iff_not]
    rintro ⟨h1, h2⟩
    rw [hm] at h1 h2
    have := expN_one hd hm (by simpa using h2)
    omega
  have ho : otL (expN x d) = (expN x d).set m (z - 1) ++ [1] := by
    unfold otL
    rw [hsb, if_neg (by simp), hm, List.getD_eq_getElem?_getD, show m + 1 - 1 = m by omega, hz]; rfl
  have hto : trmB (otL (expN x d)) = true := by
    rw [ho]
    refine trmB_iff.2 ⟨by simp, by simp [hm]; omega, fun k y hy => ?_⟩
    rw [List.getElem?_append] at hy
    split at hy
    · rw [List.getElem?_set] at hy
      split at hy
      · rename_i hk
        split at hy
        · injection hy with hy
          subst hy hk
          have h1 := hb z (List.mem_of_getElem? hz)
          rcases Nat.eq_zero_or_pos m with h0 | h0
          · subst h0; have := hhead z hz; simp; omega
          · have := hlast h0; rw [if_neg (by omega)]; omega
        · cases hy
      · have h1 := hb y (List.mem_of_getElem? hy)
        cases k with
        | zero => simp; omega
        | succ k => have := hge k y hy; simp; omega
    · rename_i hk
      have hlen : ((expN x d).set m (z - 1)).length = m + 1 := by simp [hm]
      have : y = 1 := by
        cases hkk : k - ((expN x d).set m (z - 1)).length with
        | zero => rw [hkk] at hy; simp at hy; exact hy.symm
        | succ j => rw [hkk] at hy; simp at hy
      subst this
      rw [if_neg (by omega)]; omega
  have hol : otfL (expN x d) = otL (expN x d) := if_pos ⟨ht, hto⟩
  refine ⟨ht, hs, ?_, by rw [hol]; exact hto, ?_⟩
  · unfold otfC; rw [if_pos ht, if_pos hto]
  · rw [hol, ho]; exact shL_ot hm hz
theorem a2Long_one (A : Option Addr) (n cap : Nat) (w : World) (hn : n ≤ 9223372036854775807) : Calls Try.prog 18 #[.slice A n cap, .slice none 0 0] w fun e w' => e = .returned (.bool (decide ((3000 : Int) < n))) ∧ w = w' := by
  by_cases h : (3000 : Int) < n
  · rw [decide_eq_true h]
    go_enter Try.func18, Try.ntmps18
    go_wp2_with fail
    go_ret
    exact ⟨rfl, rfl⟩
  · rw [decide_eq_false h]
    have h' : decide ((3000 : Int) < n) = false := decide_eq_false h
    go_enter Try.func18, Try.ntmps18
    go_wp2_with fail
    go_ret
    exact ⟨rfl, rfl⟩
set_option maxHeartbeats 3200000 in
theorem fnTermOrder_walk (w : World) (A : Option Addr) (n cap : Nat) (xs : List Int) (hx : BRow w A n xs) :
    Calls Try.prog 4 #[.slice A n cap] w fun e w' => e = .returned (.bool true) ∧ Below w.heap.size w w' := by
  have hbd := hx.2.1
  have HX := Lib.hid hx
  have HL := Lib.hid (a2Long_one A n cap w hbd)
  clear hx
  by_cases hn : (3000 : Int) < n
  · rw [decide_eq_true hn] at HL
    go_enter Try.func4, Try.ntmps4
    go_wp2_with fail
    refine HL.out.mono ?_
    rintro e w' ⟨rfl, rfl⟩
    go_wp2_with fail
    go_ret
    exact ⟨rfl, Below.refl _ _⟩
  · rw [decide_eq_false hn] at HL
    go_enter Try.func4, Try.ntmps4
    go_wp2_with fail
    refine HL.out.mono ?_
    rintro e w' ⟨rfl, rfl⟩
    go_wp2_with fail
    refine (a2Fractions_any A n cap xs w HX.out).mono ?_
    rintro e w1 ⟨⟨x1, y1, x2, y2, x3, y3, rfl, ⟨v1, p1, p2, p3⟩, ⟨v2, q1, q2, q3⟩, _⟩, hb1⟩
    obtain ⟨a1, a2, _⟩ := vfB_iff.1 v1
    obtain ⟨b1, b2, _⟩ := vfB_iff.1 v2
    obtain ⟨d, rfl⟩ := Int.eq_ofNat_of_zero_le (show 0 ≤ y1 by omega)
    obtain ⟨d', rfl⟩ := Int.eq_ofNat_of_zero_le (show 0 ≤ y2 by omega)
    obtain ⟨t1, t2, t3, t4, t5⟩ := terms_ok (x := x1) (d := d) p1 p2 (by omega) (by omega)
    obtain ⟨s1, s2, _⟩ := terms_ok (x := x2) (d := d') q1 q2 (by omega) (by omega)
    have k1 := cmpT_expN d d' x1 x2 1 (by omega) (by omega)
    have k2 := cmpT_expN d' d x2 x1 1 (by omega) (by omega)
    rw [cmpI_neg] at k2
    have HEa := Lib.hid (fun W => specExpand_any x1 d W)
    have HEb := Lib.hid (fun W => specExpand_any x2 d' W)
    have HOt := Lib.hid (fun B c W h hc => specOtf_any B (expN x1 d).length c (expN x1 d) W h hc)
    have HF := Lib.hid (fun W => specCmp_any x1 d x2 d' W)
    rw [show expL x1 d = expN x1 d from by unfold expL; rw [if_pos v1, Int.toNat_natCast], show expC x1 d = 0 from if_pos v1] at HEa
    rw [show expL x2 d' = expN x2 d' from by unfold expL; rw [if_pos v2, Int.toNat_natCast], show expC x2 d' = 0 from if_pos v2] at HEb
    rw [t3] at HOt
    rw [show cmpR x1 d x2 d' = (cmpI (x1 * d') (x2 * d), 0) from if_pos ⟨v1, v2⟩] at HF
    have hC : -1 ≤ cmpI (x1 * d') (x2 * d) ∧ cmpI (x1 * d') (x2 * d) ≤ 1 := by unfold cmpI; split <;> (try split) <;> omega
    have r1 : ∀ z ∈ expN x1 d, Rng z := fun z hz => by have := expN_rng d x1 (by omega) (by omega) (by omega) z hz; unfold Rng; omega
    have r2 : ∀ z ∈ expN x2 d', Rng z := fun z hz => by have := expN_rng d' x2 (by omega) (by omega) (by omega) z hz; unfold Rng; omega
    have r3 := otfL_rng (expN x1 d)
    have l1 : (expN x1 d).length ≤ 60 := (trmB_iff.1 t1).2.1
    have l2 : (expN x2 d').length ≤ 60 := (trmB_iff.1 s1).2.1
    have l3 : (otfL (expN x1 d)).length ≤ 60 := (trmB_iff.1 t4).2.1
    generalize cmpI (x1 * d') (x2 * d) = C at *
    have g1 : cpT (expN x1 d) (expN x2 d') = C ∧ cpC (expN x1 d) (expN x2 d') = 0 := ⟨by unfold cpT; rw [if_pos ⟨t1, s1⟩, t2, s2, k1]; omega, if_pos ⟨t1, s1⟩⟩
    have g2 : cpT (expN x2 d') (expN x1 d) = -C ∧ cpC (expN x2 d') (expN x1 d) = 0 := ⟨by unfold cpT; rw [if_pos ⟨s1, t1⟩, t2, s2, k2]; omega, if_pos ⟨s1, t1⟩⟩
    have g3 : cpT (otfL (expN x1 d)) (expN x2 d') = C ∧ cpC (otfL (expN x1 d)) (expN x2 d') = 0 := ⟨by unfold cpT; rw [if_pos ⟨t4, s1⟩, t5, s2, k1]; omega, if_pos ⟨t4, s1⟩⟩
    have g4 : cpT (expN x1 d) (otfL (expN x1 d)) = 0 ∧ cpC (expN x1 d) (otfL (expN x1 d)) = 0 := ⟨by unfold cpT; rw [if_pos ⟨t1, t4⟩, t5, t2, cmpT_self], if_pos ⟨t1, t4⟩⟩
    have HC1 := Lib.hid (fun B c B' c' W h h' k k' => implCpt_any B (expN x1 d).length c B' (expN x2 d').length c' (expN x1 d) (expN x2 d') W h h' k k')
    have HC2 := Lib.hid (fun B c B' c' W h h' k k' => implCpt_any B (expN x2 d').length c B' (expN x1 d).length c' (expN x2 d') (expN x1 d) W h h' k k')
    have HC3 := Lib.hid (fun B c B' c' W h h' k k' => implCpt_any B (otfL (expN x1 d)).length c B' (expN x2 d').length c' (otfL (expN x1 d)) (expN x2 d') W h h' k k')
    have HC4 := Lib.hid (fun B c B' c' W h h' k k' => implCpt_any B (expN x1 d).length c B' (otfL (expN x1 d)).length c' (expN x1 d) (otfL (expN x1 d)) W h h' k k')
    rw [g1.1, g1.2] at HC1
    rw [g2.1, g2.2] at HC2
    rw [g3.1, g3.2] at HC3
    rw [g4.1, g4.2] at HC4
    clear g1 g2 g3 g4 k1 k2 t1 t2 t3 t4 t5 s1 s2
    generalize otfL (expN x1 d) = zo at *
    generalize expN x1 d = zs at *
    generalize expN x2 d' = ys at *
    obtain ⟨hC1, hC2⟩ := hC
    unfold ResI at HEa HEb HOt
    have R1 := Lib.hid r1
    have R2 := Lib.hid r2
    have R3 := Lib.hid r3
    have S0 := Lib.hid (two_alloc (two_start w1 x1 d x2 d' 25 25) (.cells #[.int .i64 x3, .int .i64 y3] 25))
    clear r1 r2 r3 v1 v2
    go_wp2_with fail
    refine (HEa.out _).mono ?_
    rintro e w2 ⟨⟨B1, c1, rfl, o1⟩, e2⟩
    have S2 := Lib.hid (two_keep' S0.out e2)
    have O1 := Lib.hid o1
    obtain ⟨u0, u1, u2, u3, _⟩ := two_keep' S0.out e2
    clear o1 e2 S0
    go_wp2_with fail
    refine (HEb.out _).mono ?_
    rintro e w3 ⟨⟨B2, c2, rfl, o2⟩, e3⟩
    have S3 := Lib.hid (two_keep' S2.out e3)
    have O1 := Lib.hid (own_below O1.out e3)
    have O2 := Lib.hid o2
    clear o2 e3 S2 u0 u1 u2 u3
    go_wp2_with fail
    refine (HOt.out B1 c1 _ (IRow.of_own O1.out (by omega) R1.out) (own_cap O1.out)).mono ?_
    rintro e w4 ⟨⟨B3, c3, rfl, o3⟩, e4⟩
    have S4 := Lib.hid (two_keep' S3.out e4)
    have O1 := Lib.hid (own_below O1.out e4)
    have O2 := Lib.hid (own_below O2.out e4)
    have O3 := Lib.hid o3
    clear o3 e4 S3
    go_wp2_with fail
    refine (HC1.out B1 c1 B2 c2 _ (IRow.of_own O1.out (by omega) R1.out) (IRow.of_own O2.out (by omega) R2.out) (own_cap O1.out) (own_cap O2.out)).mono ?_
    rintro e w5 ⟨rfl, e5⟩
    have S5 := Lib.hid (two_keep' S4.out e5)
    have O1 := Lib.hid (own_below O1.out e5)
    have O2 := Lib.hid (own_below O2.out e5)
    have O3 := Lib.hid (own_below O3.out e5)
    clear e5 S4
    go_wp2_with fail
    refine (HC2.out B2 c2 B1 c1 _ (IRow.of_own O2.out (by omega) R2.out) (IRow.of_own O1.out (by omega) R1.out) (own_cap O2.out) (own_cap O1.out)).mono ?_
    rintro e w6 ⟨rfl, e6⟩
    have S6 := Lib.hid (two_keep' S5.out e6)
    have O1 := Lib.hid (own_below O1.out e6)
    have O2 := Lib.hid (own_below O2.out e6)
    have O3 := Lib.hid (own_below O3.out e6)
    clear e6 S5
    go_wp2_with fail
    refine (HC3.out B3 c3 B2 c2 _ (IRow.of_own O3.out (by omega) R3.out) (IRow.of_own O2.out (by omega) R2.out) (own_cap O3.out) (own_cap O2.out)).mono ?_
    rintro e w7 ⟨rfl, e7⟩
    have S7 := Lib.hid (two_keep' S6.out e7)
    have O1 := Lib.hid (own_below O1.out e7)
    have O3 := Lib.hid (own_below O3.out e7)
    clear e7 S6
    go_wp2_with fail
    refine (HC4.out B1 c1 B3 c3 _ (IRow.of_own O1.out (by omega) R1.out) (IRow.of_own O3.out (by omega) R3.out) (own_cap O1.out) (own_cap O3.out)).mono ?_
    rintro e w8 ⟨rfl, e8⟩
    have S8 := Lib.hid (two_keep' S7.out e8)
    obtain ⟨u0, u1, u2, u3, _⟩ := two_keep' S7.out e8
    clear e8 S7 O1 O2 O3
    go_wp2_with fail
    refine (HF.out _).mono ?_
    rintro e w9 ⟨rfl, e9⟩
    have hBf : Below w.heap.size w w9 := hb1.trans ((two_keep' S8.out e9).2.2.2.2.1.mono hb1.size)
    clear e9 S8 u0 u1 u2 u3
    go_wp2_with fail
    go_ret
    exact ⟨by simp, hBf⟩
end Go.Proofs.Ytjkonkoiofhefaa
