/-
  The convergents of terms with signs: contracts of the program's and of the reference's functions; the walk of the law FnExactSignedConvergents.
  The value of terms with signs, and what is made of it: contracts of the exported functions; the walks of the laws FnExactValueOfSigned, FnExactTermsFromSigned and FnExactSignedFromTerms.
  Are terms with signs those of their value by a kind: contracts of the exported functions; the walk of the law FnExactKindOfSigned.
  Terms with signs read from texts: plain laws.
  Fractions read from texts: plain laws.
  The laws of fractions: plain laws.
  The laws of terms with signs: plain laws: the terms of a kind have the value of their fraction.
  Conditions: those of the law's own text, and that the package-level variables hold what the program's text lays in them.
-/
import Derived.Test.YtlpglibnjmjjkaaGreatDoorProg
import Derived.Test.YtlpglibnjmjjkaaGreatDoorS01
import Derived.Test.YtlpglibnjmjjkaaGreatDoorS02
import Derived.Test.YtlpglibnjmjjkaaGreatDoorS06
import Derived.Test.YtlpglibnjmjjkaaGreatDoorS03
import Derived.IntWalk
import Derived.Handy
import Derived.BigQuiet
import Derived.Deep.QuietTactic
import Derived.Deep.AppendLies
import Derived.Test.YtlpglibnjmjjkaaGreatDoorS05
namespace Go.Proofs.YtlpglibnjmjjkaaGreatDoor
open Go.RowKit
set_option linter.unusedVariables false
set_option linter.unusedSimpArgs false
attribute [local go_sem ↓] Go.wp_at_zero Go.wp_at_succ

theorem plR_ok {a b : Int} (h : (plR a b).2.2 = 0) : vfB (plR a b).1 (plR a b).2.1 = true := by
  unfold plR at h ⊢
  split
  · rename_i hv; exact hv
  · rename_i hv; rw [if_neg hv] at h; cases h
theorem plR_code (a b : Int) : (plR a b).2.2 = 0 ∨ (plR a b).2.2 = 5 := by
  unfold plR
  split
  · exact .inl rfl
  · exact .inr rfl
/-- The convergents of terms with signs behind a state, and a code. -/
def scvR : List (Int × Int) → Int → Int → Int → Int → List (Int × Int) × Int
  | [], _, _, _, _ => ([], 0)
  | x :: r, p, q, p0, q0 =>
    if x.2 * q + x.1 * q0 = 0 then ([], 6)
    else if 1000000000 < (x.2 * p + x.1 * p0).natAbs ∨ 1000000000 < (x.2 * q + x.1 * q0).natAbs then ([], 5)
    else if (plR (x.2 * p + x.1 * p0) (x.2 * q + x.1 * q0)).2.2 = 0 then
      (if (scvR r (x.2 * p + x.1 * p0) (x.2 * q + x.1 * q0) p q).2 = 0 then
        (((plR (x.2 * p + x.1 * p0) (x.2 * q + x.1 * q0)).1, (plR (x.2 * p + x.1 * p0) (x.2 * q + x.1 * q0)).2.1) :: (scvR r (x.2 * p + x.1 * p0) (x.2 * q + x.1 * q0) p q).1, 0)
      else ([], (scvR r (x.2 * p + x.1 * p0) (x.2 * q + x.1 * q0) p q).2))
    else ([], 5)
theorem scvR_len : ∀ (zs : List (Int × Int)) (p q p0 q0 : Int), ((scvR zs p q p0 q0).2 = 0 → (scvR zs p q p0 q0).1.length = zs.length) ∧ ((scvR zs p q p0 q0).2 ≠ 0 → (scvR zs p q p0 q0).1 = []) ∧
    ∀ z ∈ (scvR zs p q p0 q0).1, vfB z.1 z.2 = true
  | [], p, q, p0, q0 => by simp [scvR]
  | x :: r, p, q, p0, q0 => by
    obtain ⟨h1, h2, h3⟩ := scvR_len r (x.2 * p + x.1 * p0) (x.2 * q + x.1 * q0) p q
    rw [scvR]
    split
    · simp
    · split
      · simp
      · split
        · rename_i hc
          split
          · rename_i h0
            refine ⟨fun _ => by simp [h1 h0], fun h => absurd rfl h, fun z hz => ?_⟩
            rw [List.mem_cons] at hz
            rcases hz with rfl | hz
            · exact plR_ok hc
            · exact h3 z hz
          · rename_i h0
            exact ⟨fun h => absurd h h0, fun _ => rfl, fun z hz => by cases hz⟩
        · simp
/-- So many of the convergents have been found. -/
def ScvAt (zs : List (Int × Int)) (k : Nat) (p q p0 q0 : Int) (fs : List (Int × Int)) : Prop :=
  scvR zs 1 0 0 1 = if (scvR (zs.drop k) p q p0 q0).2 = 0 then (fs ++ (scvR (zs.drop k) p q p0 q0).1, 0) else ([], (scvR (zs.drop k) p q p0 q0).2)
theorem ScvAt.start (zs : List (Int × Int)) : ScvAt zs 0 1 0 0 1 [] := by
  unfold ScvAt
  obtain ⟨h1, h2, _⟩ := scvR_len zs 1 0 0 1
  rw [List.drop_zero]
  split
  · rename_i h; exact Prod.ext (by simp) h
  · rename_i h; exact Prod.ext (h2 h) rfl
theorem drop_atP {zs : List (Int × Int)} {k : Nat} {z : Int × Int} (h : zs[k]? = some z) : zs.drop k = z :: zs.drop (k + 1) := by
  have hk : k < zs.length := by
    rcases Nat.lt_or_ge k zs.length with h' | h'
    · exact h'
    · rw [List.getElem?_eq_none h'] at h; cases h
  rw [List.drop_eq_getElem_cons hk]
  rw [List.getElem?_eq_getElem hk] at h
  injection h with h
  rw [h]
theorem ScvAt.zero {zs : List (Int × Int)} {k : Nat} {p q p0 q0 x y : Int} {fs : List (Int × Int)} (h : ScvAt zs k p q p0 q0 fs) (hz : zs[k]? = some (x, y)) (hq : y * q + x * q0 = 0) : scvR zs 1 0 0 1 = ([], 6) := by
  unfold ScvAt at h
  rw [h, drop_atP hz, scvR, if_pos hq]; rfl
theorem ScvAt.full {zs : List (Int × Int)} {k : Nat} {p q p0 q0 x y : Int} {fs : List (Int × Int)} (h : ScvAt zs k p q p0 q0 fs) (hz : zs[k]? = some (x, y)) (hq : y * q + x * q0 ≠ 0)
    (hf : (1000000000 < (y * p + x * p0).natAbs ∨ 1000000000 < (y * q + x * q0).natAbs) ∨ (plR (y * p + x * p0) (y * q + x * q0)).2.2 ≠ 0) : scvR zs 1 0 0 1 = ([], 5) := by
  unfold ScvAt at h
  rw [h, drop_atP hz, scvR, if_neg hq]
  by_cases ha : 1000000000 < (y * p + x * p0).natAbs ∨ 1000000000 < (y * q + x * q0).natAbs
  · rw [if_pos ha]; rfl
  · rw [if_neg ha]
    rcases hf with hf | hf
    · exact absurd hf ha
    · simp only [if_neg hf]; rfl
theorem ScvAt.step {zs : List (Int × Int)} {k : Nat} {p q p0 q0 x y : Int} {fs : List (Int × Int)} (h : ScvAt zs k p q p0 q0 fs) (hz : zs[k]? = some (x, y)) (hq : y * q + x * q0 ≠ 0)
    (ha : ¬ (1000000000 < (y * p + x * p0).natAbs ∨ 1000000000 < (y * q + x * q0).natAbs)) (hc : (plR (y * p + x * p0) (y * q + x * q0)).2.2 = 0) :
    ScvAt zs (k + 1) (y * p + x * p0) (y * q + x * q0) p q (fs ++ [((plR (y * p + x * p0) (y * q + x * q0)).1, (plR (y * p + x * p0) (y * q + x * q0)).2.1)]) := by
  unfold ScvAt at *
  rw [h, drop_atP hz, scvR, if_neg hq, if_neg ha]
  simp only [if_pos hc]
  by_cases h0 : (scvR (zs.drop (k + 1)) (y * p + x * p0) (y * q + x * q0) p q).2 = 0
  · simp only [if_pos h0]; simp
  · simp only [if_neg h0]
theorem ScvAt.done {zs : List (Int × Int)} {k : Nat} {p q p0 q0 : Int} {fs : List (Int × Int)} (h : ScvAt zs k p q p0 q0 fs) (hk : zs.length ≤ k) : scvR zs 1 0 0 1 = (fs, 0) := by
  unfold ScvAt at h
  rw [h, List.drop_of_length_le hk]; simp [scvR]
theorem sg_bd {x p : Int} (hx : x = 1 ∨ x = -1) (h1 : -1000000000 ≤ p) (h2 : p ≤ 1000000000) : -1000000000 ≤ x * p ∧ x * p ≤ 1000000000 := by
  rcases hx with rfl | rfl <;> omega

/-- The convergents of terms with signs, and a code. -/
def scfL (zs : List (Int × Int)) : List (Int × Int) := if sgnB zs = true then (scvR zs 1 0 0 1).1 else []
def scfC (zs : List (Int × Int)) : Int := if sgnB zs = true then (scvR zs 1 0 0 1).2 else 1
theorem scfL_len (zs : List (Int × Int)) : (scfL zs).length ≤ zs.length := by
  unfold scfL
  split
  · obtain ⟨h1, h2, _⟩ := scvR_len zs 1 0 0 1
    by_cases h : (scvR zs 1 0 0 1).2 = 0
    · rw [h1 h]; exact Nat.le_refl _
    · rw [h2 h]; simp
  · simp
theorem scfL_rng (zs : List (Int × Int)) : ∀ z ∈ scfL zs, Rng z.1 ∧ Rng z.2 := by
  intro z hz
  unfold scfL at hz
  split at hz
  · have := vfB_iff.1 ((scvR_len zs 1 0 0 1).2.2 z hz)
    unfold Rng; omega
  · cases hz

set_option maxRecDepth 100000 in
set_option maxHeartbeats 6400000 in
theorem implScf_any (A : Option Addr) (n cap : Nat) (zs : List (Int × Int)) (w : World) (h : PRow w A n zs) (hcap : n ≤ cap) :
    Calls Tryz.prog 82 #[.slice A n cap] w fun e w' => ResF w.heap.size (scfL zs) (scfC zs) e w' ∧ Below w.heap.size w w' := by
  have HV := Lib.hid (validSigned_any A n cap zs w h hcap)
  cases hv : sgnB zs
  · rw [show scfL zs = [] from if_neg (by simp [hv]), show scfC zs = 1 from if_neg (by simp [hv])]
    rw [hv] at HV
    go_enter Tryz.func82, Tryz.ntmps82
    go_wp2_with fail
    refine HV.out.mono ?_
    rintro e w1 ⟨rfl, hb1⟩
    go_wp2_with fail
    go_ret2
    exact ⟨⟨none, 0, rfl, World.ownsRow_nil ..⟩, hb1⟩
  · rw [show scfL zs = (scvR zs 1 0 0 1).1 from if_pos hv, show scfC zs = (scvR zs 1 0 0 1).2 from if_pos hv]
    rw [hv] at HV
    obtain ⟨n1, n2, hin⟩ := sgn_in hv
    rw [h.len] at n1 n2
    obtain ⟨R, hR⟩ : ∃ R, R = scvR zs 1 0 0 1 := ⟨_, rfl⟩
    rw [← hR]
    have HR := Lib.hid hR
    obtain ⟨i0, hi, hz0, hz1, hz2⟩ := info_parts infoF
    have HL := Lib.hid h.len
    have HIn := Lib.hid hin
    have hw := Lib.hid h
    clear h hin hR hv
    go_enter Tryz.func82, Tryz.ntmps82
    go_wp2_with fail
    refine HV.out.mono ?_
    rintro e w1 ⟨rfl, hb1⟩
    go_wp2_with fail
    go_loopw [4, 5, 6, 7, 8, 18] (fun o a b c d i wr => ∃ (k : Nat) (p q p0 q0 : Int) (B : Option Addr) (cc : Nat) (fs : List (Int × Int)), k ≤ n ∧ i = .int .i64 k ∧ a = .int .i64 p ∧ b = .int .i64 q ∧ c = .int .i64 p0 ∧ d = .int .i64 q0 ∧ o = .slice B k cc ∧
      -1000000000 ≤ p ∧ p ≤ 1000000000 ∧ -1000000000 ≤ q ∧ q ≤ 1000000000 ∧ -1000000000 ≤ p0 ∧ p0 ≤ 1000000000 ∧ -1000000000 ≤ q0 ∧ q0 ≤ 1000000000 ∧
      wr.ownsRow w.heap.size 25 2 (.slice B k cc) k (prs fs) ∧ Hid (ScvAt zs k p q p0 q0 fs) ∧ Below w.heap.size w wr) (fun _ _ _ _ _ i _ => n - (intOf i).toNat)
    case atStart => exact ⟨0, 1, 0, 0, 1, none, 0, [], Nat.zero_le _, rfl, rfl, rfl, rfl, rfl, rfl, by omega, by omega, by omega, by omega, by omega, by omega, by omega, by omega, World.ownsRow_nil .., ScvAt.start zs, hb1⟩
    case round =>
      obtain ⟨k, p, q, p0, q0, B, cc, fs, hk, rfl, rfl, rfl, rfl, rfl, rfl, p1, p2, q1, q2, p3, p4, q3, q4, hown, HC, hB⟩ := hrel
      have HO := Lib.hid hown
      have HF := Lib.hid hown.lt
      have hbase : w.heap.size ≤ wr.heap.size := hB.size
      clear hown hb1
      by_cases hlt : k < n
      · obtain ⟨bb, o, x, y, rfl, hz, _, _, _, _, hc1, hc2⟩ := (hw.out.below hB).at_ hlt
        obtain ⟨hx, y1, y2⟩ := HIn.out _ (List.mem_of_getElem? hz)
        simp only at hx y1 y2
        obtain ⟨m1, m2⟩ := mul_bd y1 y2 p1 p2
        obtain ⟨m3, m4⟩ := mul_bd y1 y2 q1 q2
        obtain ⟨m5, m6⟩ := sg_bd hx p3 p4
        obtain ⟨m7, m8⟩ := sg_bd hx q3 q4
        obtain ⟨P, hP⟩ : ∃ P, P = y * p + x * p0 := ⟨_, rfl⟩
        obtain ⟨Q, hQ⟩ : ∃ Q, Q = y * q + x * q0 := ⟨_, rfl⟩
        have bP1 : -2000000000000000000 ≤ P := by omega
        have bP2 : P ≤ 2000000000000000000 := by omega
        have bQ1 : -2000000000000000000 ≤ Q := by omega
        have bQ2 : Q ≤ 2000000000000000000 := by omega
        have HZ := Lib.hid hz
        have k1 : IntKind.i64.wrap (y * p) = y * p := IntWalk.i64_in _ (by omega)
        have k2 : IntKind.i64.wrap (x * p0) = x * p0 := IntWalk.i64_in _ (by omega)
        have k3 : IntKind.i64.wrap (y * q) = y * q := IntWalk.i64_in _ (by omega)
        have k4 : IntKind.i64.wrap (x * q0) = x * q0 := IntWalk.i64_in _ (by omega)
        have k5 : IntKind.i64.wrap (y * p + x * p0) = P := by rw [hP]; exact IntWalk.i64_in _ (by omega)
        have k6 : IntKind.i64.wrap (y * q + x * q0) = Q := by rw [hQ]; exact IntWalk.i64_in _ (by omega)
        have HP := Lib.hid hP
        have HQ := Lib.hid hQ
        clear hz hP hQ hx
        rcases (by omega : Q = 0 ∨ (Q ≠ 0 ∧ 1000000000 < (P.natAbs : Int)) ∨ (Q ≠ 0 ∧ (P.natAbs : Int) ≤ 1000000000 ∧ 1000000000 < (Q.natAbs : Int)) ∨ (Q ≠ 0 ∧ (P.natAbs : Int) ≤ 1000000000 ∧ (Q.natAbs : Int) ≤ 1000000000)) with h0 | ⟨h0, ha⟩ | ⟨h0, ha, hb⟩ | ⟨h0, ha, hb⟩
        · have e0 : (Q == 0) = true := by rw [beq_iff_eq]; exact h0
          have H0 := Lib.hid h0
          clear h0
          go_wp2_with fail
          go_quiet (fail)
          clear k1 k2 k3 k4 k5 k6
          have hbW : Below w.heap.size w ((wr.alloc (.cells #[.int .i64 x, .int .i64 y] 86)).drewN nq) := (hB.alloc hbase _).trans (below_drewN _ _ _)
          have HOW := Lib.hid (own_below (HO.out.alloc (.cells #[.int .i64 x, .int .i64 y] 86)) (below_drewN _ (wr.alloc (.cells #[.int .i64 x, .int .i64 y] 86)) nq))
          generalize (wr.alloc (.cells #[.int .i64 x, .int .i64 y] 86)).drewN nq = W at hbW HOW ⊢
          have hbaseW := hbW.size
          clear hc1 hc2 HO hB
          go_wp2_with fail
          go_ret2
          have he := HR.out.trans (HC.out.zero HZ.out (by rw [← HQ.out]; exact H0.out))
          subst he
          exact ⟨⟨none, 0, rfl, World.ownsRow_nil ..⟩, hbW⟩
        · have e0 : (Q == 0) = false := by rw [beq_eq_false_iff_ne]; exact h0
          have HFu := Lib.hid (HR.out.trans (HC.out.full HZ.out (by rw [← HQ.out]; exact h0) (.inl (.inl (by rw [← HP.out]; omega)))))
          clear h0
          go_wp2_with fail
          go_quiet (fail)
          clear k1 k2 k3 k4 k5 k6
          have hbW : Below w.heap.size w ((wr.alloc (.cells #[.int .i64 x, .int .i64 y] 86)).drewN nq) := (hB.alloc hbase _).trans (below_drewN _ _ _)
          have HOW := Lib.hid (own_below (HO.out.alloc (.cells #[.int .i64 x, .int .i64 y] 86)) (below_drewN _ (wr.alloc (.cells #[.int .i64 x, .int .i64 y] 86)) nq))
          generalize (wr.alloc (.cells #[.int .i64 x, .int .i64 y] 86)).drewN nq = W at hbW HOW ⊢
          have hbaseW := hbW.size
          clear hc1 hc2 HO hB
          go_wp2_with fail
          refine (abs_any P _ (by omega) (by omega)).mono ?_
          rintro e w' ⟨rfl, rfl⟩
          go_wp2_with fail
          go_ret2
          have he := HFu.out
          subst he
          exact ⟨⟨none, 0, rfl, World.ownsRow_nil ..⟩, hbW⟩
        · have e0 : (Q == 0) = false := by rw [beq_eq_false_iff_ne]; exact h0
          have HFu := Lib.hid (HR.out.trans (HC.out.full HZ.out (by rw [← HQ.out]; exact h0) (.inl (.inr (by rw [← HQ.out]; omega)))))
          have ha2 : decide ((1000000000 : Int) < (P.natAbs : Int)) = false := decide_eq_false (by omega)
          clear h0
          go_wp2_with fail
          go_quiet (fail)
          clear k1 k2 k3 k4 k5 k6
          have hbW : Below w.heap.size w ((wr.alloc (.cells #[.int .i64 x, .int .i64 y] 86)).drewN nq) := (hB.alloc hbase _).trans (below_drewN _ _ _)
          have HOW := Lib.hid (own_below (HO.out.alloc (.cells #[.int .i64 x, .int .i64 y] 86)) (below_drewN _ (wr.alloc (.cells #[.int .i64 x, .int .i64 y] 86)) nq))
          generalize (wr.alloc (.cells #[.int .i64 x, .int .i64 y] 86)).drewN nq = W at hbW HOW ⊢
          have hbaseW := hbW.size
          clear hc1 hc2 HO hB
          go_wp2_with fail
          refine (abs_any P _ (by omega) (by omega)).mono ?_
          rintro e w' ⟨rfl, rfl⟩
          go_wp2_with fail
          refine (abs_any Q _ (by omega) (by omega)).mono ?_
          rintro e w' ⟨rfl, rfl⟩
          go_wp2_with fail
          go_ret2
          have he := HFu.out
          subst he
          exact ⟨⟨none, 0, rfl, World.ownsRow_nil ..⟩, hbW⟩
        · have e0 : (Q == 0) = false := by rw [beq_eq_false_iff_ne]; exact h0
          have ha2 : decide ((1000000000 : Int) < (P.natAbs : Int)) = false := decide_eq_false (by omega)
          have hb2 : decide ((1000000000 : Int) < (Q.natAbs : Int)) = false := decide_eq_false (by omega)
          have HPl := Lib.hid (fun w => plainOf_any P Q w (by omega) (by omega) (by omega) (by omega) (by omega))
          have hna : ¬ (1000000000 < (y * p + x * p0).natAbs ∨ 1000000000 < (y * q + x * q0).natAbs) := by rw [← HP.out, ← HQ.out]; omega
          have hst := fun hc => HC.out.step HZ.out (by rw [← HQ.out]; exact h0) hna hc
          have hfu := fun hc => HR.out.trans (HC.out.full HZ.out (by rw [← HQ.out]; exact h0) (.inr hc))
          rw [← HP.out, ← HQ.out] at hst hfu
          rcases plR_code P Q with hc | hc
          · have hst := hst hc
            rw [hc] at HPl
            generalize (plR P Q).1 = X at *
            generalize (plR P Q).2.1 = Y at *
            have HSt := Lib.hid hst
            clear h0 hfu hst hna hc
            go_wp2_with fail
            go_quiet (fail)
            clear k1 k2 k3 k4 k5 k6
            have hbW : Below w.heap.size w ((wr.alloc (.cells #[.int .i64 x, .int .i64 y] 86)).drewN nq) := (hB.alloc hbase _).trans (below_drewN _ _ _)
            have HOW := Lib.hid (own_below (HO.out.alloc (.cells #[.int .i64 x, .int .i64 y] 86)) (below_drewN _ (wr.alloc (.cells #[.int .i64 x, .int .i64 y] 86)) nq))
            generalize (wr.alloc (.cells #[.int .i64 x, .int .i64 y] 86)).drewN nq = W at hbW HOW ⊢
            have hbaseW := hbW.size
            clear hc1 hc2 HO hB
            go_wp2_with fail
            refine (abs_any P _ (by omega) (by omega)).mono ?_
            rintro e w' ⟨rfl, rfl⟩
            go_wp2_with fail
            refine (abs_any Q _ (by omega) (by omega)).mono ?_
            rintro e w' ⟨rfl, rfl⟩
            go_wp2_with fail
            refine (HPl.out _).mono ?_
            rintro e wv ⟨rfl, hbv⟩
            have hbV : Below w.heap.size w wv := hbW.trans (hbv.mono hbaseW)
            have hbaseV : w.heap.size ≤ wv.heap.size := hbV.size
            have HOV := Lib.hid (own_below HOW.out hbv)
            clear hbv hbW HOW
            go_wp2_with (first | (at_builtin; refine wpList_append_lies _ rfl (.tmp 63) (.tmp 65) 35 rfl w.heap.size 25 i0 (.agg #[.int .i64 0, .int .i64 0]) 2 16 Tryz.underlying35 hi hz0 hz1 hz2 rfl (by decide) _ k (prs fs) (by rfl) ((HOV.out.alloc _).alloc _) ⟨(wv.heap.size + 1), 0, none⟩ 1 1 [.int .i64 X, .int .i64 Y] (by rfl) rfl ?cells (by simp [Value.oneCell']) (by decide) (by show k + 1 ≤ 9223372036854775807; omega) (by omega) (by simp; omega) ((wv.heap.size + 1) + 1) (by simp) ?_; rotate_left; intro g cap1 wn hown1 hgrow hat hlt1))
            case cells => exact fun j u hu => newcell (by simp) hu
            go_roundw
            case rel =>
              exact ⟨k + 1, P, Q, p, q, _, _, fs ++ [(X, Y)], by omega, by go_num, rfl, rfl, rfl, rfl, rfl, by omega, by omega, by omega, by omega, p1, p2, q1, q2, by rw [prs_append]; exact hown1, HSt.out, ((hbV.alloc hbaseV _).alloc (by simp; omega) _).grown hgrow (by simp; omega) (fun k hk => (HF.out k hk).1)⟩
            case measure => simp [intOf]; omega
          · have hfu := hfu (by rw [hc]; decide)
            rw [hc] at HPl
            generalize (plR P Q).1 = X at *
            generalize (plR P Q).2.1 = Y at *
            have HFu := Lib.hid hfu
            clear h0 hfu hst hna hc
            go_wp2_with fail
            go_quiet (fail)
            clear k1 k2 k3 k4 k5 k6
            have hbW : Below w.heap.size w ((wr.alloc (.cells #[.int .i64 x, .int .i64 y] 86)).drewN nq) := (hB.alloc hbase _).trans (below_drewN _ _ _)
            have HOW := Lib.hid (own_below (HO.out.alloc (.cells #[.int .i64 x, .int .i64 y] 86)) (below_drewN _ (wr.alloc (.cells #[.int .i64 x, .int .i64 y] 86)) nq))
            generalize (wr.alloc (.cells #[.int .i64 x, .int .i64 y] 86)).drewN nq = W at hbW HOW ⊢
            have hbaseW := hbW.size
            clear hc1 hc2 HO hB
            go_wp2_with fail
            refine (abs_any P _ (by omega) (by omega)).mono ?_
            rintro e w' ⟨rfl, rfl⟩
            go_wp2_with fail
            refine (abs_any Q _ (by omega) (by omega)).mono ?_
            rintro e w' ⟨rfl, rfl⟩
            go_wp2_with fail
            refine (HPl.out _).mono ?_
            rintro e wv ⟨rfl, hbv⟩
            have hbV : Below w.heap.size w wv := hbW.trans (hbv.mono hbaseW)
            have hbaseV : w.heap.size ≤ wv.heap.size := hbV.size
            clear hbv hbW HOW
            go_wp2_with fail
            go_ret2
            have he := HFu.out
            subst he
            exact ⟨⟨none, 0, rfl, World.ownsRow_nil ..⟩, hbV.alloc hbaseV _⟩
      · obtain rfl : n = k := by omega
        go_wp2_with fail
        go_ret2
        have he := HR.out.trans (HC.out.done (by rw [HL.out]; exact Nat.le_refl _))
        have hl := own_lenP HO.out
        subst he
        subst hl
        exact ⟨⟨B, cc, rfl, HO.out⟩, hB⟩
set_option maxRecDepth 100000 in
set_option maxHeartbeats 6400000 in
theorem l04Convergents_any (A : Option Addr) (n cap : Nat) (zs : List (Int × Int)) (w : World) (h : PRow w A n zs) (hv : sgnB zs = true) :
    Calls Tryz.prog 105 #[.slice A n cap] w fun e w' => ResF w.heap.size (scvR zs 1 0 0 1).1 (scvR zs 1 0 0 1).2 e w' ∧ Below w.heap.size w w' := by
  obtain ⟨n1, n2, hin⟩ := sgn_in hv
  rw [h.len] at n1 n2
  obtain ⟨R, hR⟩ : ∃ R, R = scvR zs 1 0 0 1 := ⟨_, rfl⟩
  rw [← hR]
  have HR := Lib.hid hR
  obtain ⟨i0, hi, hz0, hz1, hz2⟩ := info_parts infoF
  have HL := Lib.hid h.len
  have HIn := Lib.hid hin
  have hw := Lib.hid h
  have hown0 : (w.alloc (.cells #[] 25)).ownsRow w.heap.size 25 2 (.slice (some ⟨w.heap.size, 0, none⟩) 0 0) 0 (prs []) := World.ownsRow_made w #[] 0 (Nat.le_refl _) (by decide) rfl
  have HO := Lib.hid hown0
  clear h hin hR hv hown0
  go_enter Tryz.func105, Tryz.ntmps105
  go_wp2_with fail
  go_loopw [4, 5, 6, 7, 8, 9] (fun o a b c d i wr => ∃ (k : Nat) (p q p0 q0 : Int) (B : Option Addr) (cc : Nat) (fs : List (Int × Int)), k ≤ n ∧ i = .int .i64 k ∧ a = .int .i64 p ∧ b = .int .i64 q ∧ c = .int .i64 p0 ∧ d = .int .i64 q0 ∧ o = .slice B k cc ∧
    -1000000000 ≤ p ∧ p ≤ 1000000000 ∧ -1000000000 ≤ q ∧ q ≤ 1000000000 ∧ -1000000000 ≤ p0 ∧ p0 ≤ 1000000000 ∧ -1000000000 ≤ q0 ∧ q0 ≤ 1000000000 ∧
    wr.ownsRow w.heap.size 25 2 (.slice B k cc) k (prs fs) ∧ Hid (ScvAt zs k p q p0 q0 fs) ∧ Below w.heap.size w wr) (fun _ _ _ _ _ i _ => n - (intOf i).toNat)
  case atStart => exact ⟨0, 1, 0, 0, 1, _, 0, [], Nat.zero_le _, rfl, rfl, rfl, rfl, rfl, rfl, by omega, by omega, by omega, by omega, by omega, by omega, by omega, by omega, HO.out, ScvAt.start zs, (Below.refl _ _).alloc (Nat.le_refl _) _⟩
  case round =>
    obtain ⟨k, p, q, p0, q0, B, cc, fs, hk, rfl, rfl, rfl, rfl, rfl, rfl, p1, p2, q1, q2, p3, p4, q3, q4, hown, HC, hB⟩ := hrel
    clear HO
    have HO := Lib.hid hown
    have HF := Lib.hid hown.lt
    have hbase : w.heap.size ≤ wr.heap.size := hB.size
    clear hown
    by_cases hlt : k < n
    · obtain ⟨bb, o, x, y, rfl, hz, _, _, _, _, hc1, hc2⟩ := (hw.out.below hB).at_ hlt
      obtain ⟨hx, y1, y2⟩ := HIn.out _ (List.mem_of_getElem? hz)
      simp only at hx y1 y2
      obtain ⟨m1, m2⟩ := mul_bd y1 y2 p1 p2
      obtain ⟨m3, m4⟩ := mul_bd y1 y2 q1 q2
      obtain ⟨m5, m6⟩ := sg_bd hx p3 p4
      obtain ⟨m7, m8⟩ := sg_bd hx q3 q4
      obtain ⟨P, hP⟩ : ∃ P, P = y * p + x * p0 := ⟨_, rfl⟩
      obtain ⟨Q, hQ⟩ : ∃ Q, Q = y * q + x * q0 := ⟨_, rfl⟩
      have bP1 : -2000000000000000000 ≤ P := by omega
      have bP2 : P ≤ 2000000000000000000 := by omega
      have bQ1 : -2000000000000000000 ≤ Q := by omega
      have bQ2 : Q ≤ 2000000000000000000 := by omega
      have HZ := Lib.hid hz
      have hk0 : (0 : Int) ≤ (k : Int) := by omega
      have hk1 : (k : Int) < (n : Int) := by omega
      have k1 : IntKind.i64.wrap (y * p) = y * p := IntWalk.i64_in _ (by omega)
      have k2 : IntKind.i64.wrap (x * p0) = x * p0 := IntWalk.i64_in _ (by omega)
      have k3 : IntKind.i64.wrap (y * q) = y * q := IntWalk.i64_in _ (by omega)
      have k4 : IntKind.i64.wrap (x * q0) = x * q0 := IntWalk.i64_in _ (by omega)
      have k5 : IntKind.i64.wrap (y * p + x * p0) = P := by rw [hP]; exact IntWalk.i64_in _ (by omega)
      have k6 : IntKind.i64.wrap (y * q + x * q0) = Q := by rw [hQ]; exact IntWalk.i64_in _ (by omega)
      have HP := Lib.hid hP
      have HQ := Lib.hid hQ
      clear hz hP hQ hx
      by_cases h0 : Q = 0
      · have e0 : (Q == 0) = true := by rw [beq_iff_eq]; exact h0
        have H0 := Lib.hid h0
        clear h0
        go_wp2_with fail
        go_quiet (fail)
        go_wp2_with fail
        go_quiet (fail)
        clear k1 k2 k3 k4 k5 k6
        rename Nat => nq1
        have hbW : Below w.heap.size w (wr.drewN (nq + nq1)) := hB.trans (below_drewN _ _ _)
        have HOW := Lib.hid (own_below HO.out (below_drewN _ wr (nq + nq1)))
        have hbaseW := hbW.size
        clear hc1 hc2 HO hB
        go_wp2_with fail
        go_ret2
        have he := HR.out.trans (HC.out.zero HZ.out (by rw [← HQ.out]; exact H0.out))
        subst he
        exact ⟨⟨none, 0, rfl, World.ownsRow_nil ..⟩, hbW⟩
      · have e0 : (Q == 0) = false := by rw [beq_eq_false_iff_ne]; exact h0
        have HPl := Lib.hid (fun w => l02Full_any P Q w (by omega) (by omega) (by omega) (by omega) (by omega))
        have hst := HC.out.step HZ.out (by rw [← HQ.out]; exact h0)
        have hfu := fun hc => HR.out.trans (HC.out.full HZ.out (by rw [← HQ.out]; exact h0) hc)
        rw [← HP.out, ← HQ.out] at hst hfu
        rcases plR_code P Q with hc | hc
        · rw [hc] at HPl
          have hst := fun a => hst a hc
          have hfu := fun a => hfu (.inl a)
          generalize (plR P Q).1 = X at *
          generalize (plR P Q).2.1 = Y at *
          by_cases hb : 1000000000 < (Q.natAbs : Int)
          · have HFu := Lib.hid (hfu (.inr (by omega)))
            clear h0 hfu hst hc
            go_wp2_with fail
            go_quiet (fail)
            go_wp2_with fail
            go_quiet (fail)
            clear k1 k2 k3 k4 k5 k6
            rename Nat => nq1
            have hbW : Below w.heap.size w (wr.drewN (nq + nq1)) := hB.trans (below_drewN _ _ _)
            have HOW := Lib.hid (own_below HO.out (below_drewN _ wr (nq + nq1)))
            have hbaseW := hbW.size
            clear hc1 hc2 HO hB
            go_wp2_with fail
            refine (HPl.out _).mono ?_
            rintro e wv ⟨rfl, hbv⟩
            have hbV : Below w.heap.size w wv := hbW.trans (hbv.mono hbaseW)
            have hbaseV : w.heap.size ≤ wv.heap.size := hbV.size
            have HOV := Lib.hid (own_below HOW.out hbv)
            clear hbv hbW HOW
            go_wp2_with fail
            refine (l02Size_any Q _ (by omega) (by omega)).mono ?_
            rintro e w' ⟨rfl, rfl⟩
            go_wp2_with fail
            go_ret2
            have he := HFu.out
            subst he
            exact ⟨⟨none, 0, rfl, World.ownsRow_nil ..⟩, hbV.alloc hbaseV _⟩
          · have hb2 : decide ((1000000000 : Int) < (Q.natAbs : Int)) = false := decide_eq_false hb
            by_cases ha : 1000000000 < (P.natAbs : Int)
            · have HFu := Lib.hid (hfu (.inl (by omega)))
              clear h0 hfu hst hc
              go_wp2_with fail
              go_quiet (fail)
              go_wp2_with fail
              go_quiet (fail)
              clear k1 k2 k3 k4 k5 k6
              rename Nat => nq1
              have hbW : Below w.heap.size w (wr.drewN (nq + nq1)) := hB.trans (below_drewN _ _ _)
              have HOW := Lib.hid (own_below HO.out (below_drewN _ wr (nq + nq1)))
              have hbaseW := hbW.size
              clear hc1 hc2 HO hB
              go_wp2_with fail
              refine (HPl.out _).mono ?_
              rintro e wv ⟨rfl, hbv⟩
              have hbV : Below w.heap.size w wv := hbW.trans (hbv.mono hbaseW)
              have hbaseV : w.heap.size ≤ wv.heap.size := hbV.size
              have HOV := Lib.hid (own_below HOW.out hbv)
              clear hbv hbW HOW
              go_wp2_with fail
              refine (l02Size_any Q _ (by omega) (by omega)).mono ?_
              rintro e w' ⟨rfl, rfl⟩
              go_wp2_with fail
              refine (l02Size_any P _ (by omega) (by omega)).mono ?_
              rintro e w' ⟨rfl, rfl⟩
              go_wp2_with fail
              go_ret2
              have he := HFu.out
              subst he
              exact ⟨⟨none, 0, rfl, World.ownsRow_nil ..⟩, hbV.alloc hbaseV _⟩
            · have ha2 : decide ((1000000000 : Int) < (P.natAbs : Int)) = false := decide_eq_false ha
              have HSt := Lib.hid (hst (by omega))
              have ha3 : (P.natAbs : Int) ≤ 1000000000 := by omega
              have hb3 : (Q.natAbs : Int) ≤ 1000000000 := by omega
              clear h0 hfu hst hc ha hb
              go_wp2_with fail
              go_quiet (fail)
              go_wp2_with fail
              go_quiet (fail)
              clear k1 k2 k3 k4 k5 k6
              rename Nat => nq1
              have hbW : Below w.heap.size w (wr.drewN (nq + nq1)) := hB.trans (below_drewN _ _ _)
              have HOW := Lib.hid (own_below HO.out (below_drewN _ wr (nq + nq1)))
              have hbaseW := hbW.size
              clear hc1 hc2 HO hB
              go_wp2_with fail
              refine (HPl.out _).mono ?_
              rintro e wv ⟨rfl, hbv⟩
              have hbV : Below w.heap.size w wv := hbW.trans (hbv.mono hbaseW)
              have hbaseV : w.heap.size ≤ wv.heap.size := hbV.size
              have HOV := Lib.hid (own_below HOW.out hbv)
              clear hbv hbW HOW
              go_wp2_with fail
              refine (l02Size_any Q _ (by omega) (by omega)).mono ?_
              rintro e w' ⟨rfl, rfl⟩
              go_wp2_with fail
              refine (l02Size_any P _ (by omega) (by omega)).mono ?_
              rintro e w' ⟨rfl, rfl⟩
              go_wp2_with (first | (at_builtin; refine wpList_append_lies _ rfl (.tmp 75) (.tmp 77) 35 rfl w.heap.size 25 i0 (.agg #[.int .i64 0, .int .i64 0]) 2 16 Tryz.underlying35 hi hz0 hz1 hz2 rfl (by decide) _ k (prs fs) (by rfl) ((HOV.out.alloc _).alloc _) ⟨(wv.heap.size + 1), 0, none⟩ 1 1 [.int .i64 X, .int .i64 Y] (by rfl) rfl ?cells (by simp [Value.oneCell']) (by decide) (by show k + 1 ≤ 9223372036854775807; omega) (by omega) (by simp; omega) ((wv.heap.size + 1) + 1) (by simp) ?_; rotate_left; intro g cap1 wn hown1 hgrow hat hlt1))
              case cells => exact fun j u hu => newcell (by simp) hu
              go_roundw
              case rel =>
                exact ⟨k + 1, P, Q, p, q, _, _, fs ++ [(X, Y)], by omega, by go_num, rfl, rfl, rfl, rfl, rfl, by omega, by omega, by omega, by omega, p1, p2, q1, q2, by rw [prs_append]; exact hown1, HSt.out, ((hbV.alloc hbaseV _).alloc (by simp; omega) _).grown hgrow (by simp; omega) (fun k hk => (HF.out k hk).1)⟩
              case measure => simp [intOf]; omega
        · have HFu := Lib.hid (hfu (.inr (by rw [hc]; decide)))
          rw [hc] at HPl
          generalize (plR P Q).1 = X at *
          generalize (plR P Q).2.1 = Y at *
          clear h0 hfu hst hc
          go_wp2_with fail
          go_quiet (fail)
          go_wp2_with fail
          go_quiet (fail)
          clear k1 k2 k3 k4 k5 k6
          rename Nat => nq1
          have hbW : Below w.heap.size w (wr.drewN (nq + nq1)) := hB.trans (below_drewN _ _ _)
          have HOW := Lib.hid (own_below HO.out (below_drewN _ wr (nq + nq1)))
          have hbaseW := hbW.size
          clear hc1 hc2 HO hB
          go_wp2_with fail
          refine (HPl.out _).mono ?_
          rintro e wv ⟨rfl, hbv⟩
          have hbV : Below w.heap.size w wv := hbW.trans (hbv.mono hbaseW)
          have hbaseV : w.heap.size ≤ wv.heap.size := hbV.size
          have HOV := Lib.hid (own_below HOW.out hbv)
          clear hbv hbW HOW
          go_wp2_with fail
          go_ret2
          have he := HFu.out
          subst he
          exact ⟨⟨none, 0, rfl, World.ownsRow_nil ..⟩, hbV.alloc hbaseV _⟩
    · obtain rfl : n = k := by omega
      go_wp2_with fail
      go_ret2
      have he := HR.out.trans (HC.out.done (by rw [HL.out]; exact Nat.le_refl _))
      have hl := own_lenP HO.out
      subst he
      subst hl
      exact ⟨⟨B, cc, rfl, HO.out⟩, hB⟩
end Go.Proofs.YtlpglibnjmjjkaaGreatDoor
namespace Go.Proofs.YtlpglibnjmjjkaaGreatDoor
open Go.RowKit
set_option linter.unusedVariables false
set_option linter.unusedSimpArgs false
attribute [local go_sem ↓] Go.wp_at_zero Go.wp_at_succ

/-- The value of terms with signs, and a code. -/
def vlsT (zs : List (Int × Int)) : Int × Int × Int := if scfC zs = 0 then ((lastP (scfL zs)).1, (lastP (scfL zs)).2, 0) else (0, 0, scfC zs)
theorem scf_ok {zs : List (Int × Int)} (h : scfC zs = 0) : sgnB zs = true ∧ (scfL zs).length = zs.length ∧ 1 ≤ zs.length ∧ vfB (lastP (scfL zs)).1 (lastP (scfL zs)).2 = true := by
  unfold scfC at h
  split at h
  · rename_i hs
    obtain ⟨h1, h2, h3⟩ := scvR_len zs 1 0 0 1
    have hl : (scfL zs).length = zs.length := by rw [show scfL zs = (scvR zs 1 0 0 1).1 from if_pos hs]; exact h1 h
    have hn := (sgn_in hs).1
    refine ⟨hs, hl, hn, ?_⟩
    have hz := lastP_at hl hn
    have hm := List.mem_of_getElem? hz
    rw [show scfL zs = (scvR zs 1 0 0 1).1 from if_pos hs] at hm ⊢
    exact h3 _ hm
  · cases h
set_option maxHeartbeats 800000 in
theorem implVls_any (A : Option Addr) (n cap : Nat) (zs : List (Int × Int)) (w : World) (h : PRow w A n zs) (hcap : n ≤ cap) :
    Calls Tryz.prog 38 #[.slice A n cap] w fun e w' => e = .returned (.tuple #[.agg #[.int .i64 (vlsT zs).1, .int .i64 (vlsT zs).2.1], .int .i64 (vlsT zs).2.2]) ∧ Below w.heap.size w w' := by
  have HC := Lib.hid (implScf_any A n cap zs _ (h.alloc (.cells #[.int .i64 0, .int .i64 0] 25)) hcap)
  unfold ResF at HC
  by_cases ht : scfC zs = 0
  · obtain ⟨hs, hl, hn1, hvf⟩ := scf_ok ht
    rw [show vlsT zs = ((lastP (scfL zs)).1, (lastP (scfL zs)).2, 0) from if_pos ht]
    have hlen := h.len
    have hbd := h.bd
    rw [hlen] at hl hn1
    have hz := lastP_at hl hn1
    rw [ht, hl] at HC
    generalize scfL zs = fs at *
    generalize lastP fs = X at *
    obtain ⟨x, y⟩ := X
    have HZ := Lib.hid hz
    clear hl hz hs ht hvf hlen h
    go_enter Tryz.func38, Tryz.ntmps38
    go_wp2_with fail
    refine HC.out.mono ?_
    rintro e w1 ⟨⟨B, c, rfl, ho⟩, hb1⟩
    obtain ⟨g, rfl, hg1, hg2⟩ := own_some ho (by omega)
    obtain ⟨k0, k1⟩ := own_cellP ho HZ.out
    simp only at k0 k1
    obtain ⟨hc1, hf1, hs1⟩ := keepc hb1
    have hB1 : Below w.heap.size w w1 := Below.trans (by go_grown) (hb1.mono (by simp))
    have hl1 : w.heap.size < w1.heap.size := by simp at hs1; omega
    have z0 : w1.cell? ⟨w.heap.size, 0, none⟩ = some (.int .i64 0) := by rw [hc1 _ _ (by simp)]; simp [go_sem]
    have z1 : w1.cell? ⟨w.heap.size, 1, none⟩ = some (.int .i64 0) := by rw [hc1 _ _ (by simp)]; simp [go_sem]
    clear ho hb1 HC
    go_wp2_with fail
    exact bodyPost_ret (v := .tuple #[.agg #[.int .i64 x, .int .i64 y], .int .i64 0]) (by simp [results, Tryz.results38, go_sem, pair_set z0 z1]) rfl ⟨rfl, (hB1.setCell (p := ⟨w.heap.size, 0, none⟩) (Nat.le_refl _) _).setCell (p := ⟨w.heap.size, 1, none⟩) (Nat.le_refl _) _⟩
  · rw [show vlsT zs = (0, 0, scfC zs) from if_neg ht]
    have hne : (scfC zs != 0) = true := by rw [bne_iff_ne]; exact ht
    generalize scfC zs = k at *
    generalize scfL zs = fs at *
    clear ht
    go_enter Tryz.func38, Tryz.ntmps38
    go_wp2_with fail
    refine HC.out.mono ?_
    rintro e w1 ⟨⟨B, c, rfl, ho⟩, hb1⟩
    obtain ⟨hc1, hf1, hs1⟩ := keepc hb1
    have hB1 : Below w.heap.size w w1 := Below.trans (by go_grown) (hb1.mono (by simp))
    have hl1 : w.heap.size < w1.heap.size := by simp at hs1; omega
    have z0 : w1.cell? ⟨w.heap.size, 0, none⟩ = some (.int .i64 0) := by rw [hc1 _ _ (by simp)]; simp [go_sem]
    have z1 : w1.cell? ⟨w.heap.size, 1, none⟩ = some (.int .i64 0) := by rw [hc1 _ _ (by simp)]; simp [go_sem]
    clear ho hb1 HC
    go_wp2_with fail
    exact bodyPost_ret (v := .tuple #[.agg #[.int .i64 0, .int .i64 0], .int .i64 k]) (by simp [results, Tryz.results38, go_sem, pair_set z0 z1]) rfl ⟨rfl, (hB1.setCell (p := ⟨w.heap.size, 0, none⟩) (Nat.le_refl _) _).setCell (p := ⟨w.heap.size, 1, none⟩) (Nat.le_refl _) _⟩
set_option maxHeartbeats 800000 in
theorem l04Value_any (A : Option Addr) (n cap : Nat) (zs : List (Int × Int)) (w : World) (h : PRow w A n zs) (hs : sgnB zs = true) :
    Calls Tryz.prog 67 #[.slice A n cap] w fun e w' => e = .returned (.tuple #[.agg #[.int .i64 (vlsT zs).1, .int .i64 (vlsT zs).2.1], .int .i64 (vlsT zs).2.2]) ∧ Below w.heap.size w w' := by
  have HC := Lib.hid (l04Convergents_any A n cap zs _ (h.alloc (.cells #[.int .i64 0, .int .i64 0] 25)) hs)
  rw [show (scvR zs 1 0 0 1).1 = scfL zs from (if_pos hs).symm, show (scvR zs 1 0 0 1).2 = scfC zs from (if_pos hs).symm] at HC
  unfold ResF at HC
  by_cases ht : scfC zs = 0
  · obtain ⟨_, hl, hn1, hvf⟩ := scf_ok ht
    rw [show vlsT zs = ((lastP (scfL zs)).1, (lastP (scfL zs)).2, 0) from if_pos ht]
    have hlen := h.len
    have hbd := h.bd
    rw [hlen] at hl hn1
    have hz := lastP_at hl hn1
    rw [ht, hl] at HC
    generalize scfL zs = fs at *
    generalize lastP fs = X at *
    obtain ⟨x, y⟩ := X
    have HZ := Lib.hid hz
    clear hl hz hs ht hvf hlen h
    go_enter Tryz.func67, Tryz.ntmps67
    go_wp2_with fail
    refine HC.out.mono ?_
    rintro e w1 ⟨⟨B, c, rfl, ho⟩, hb1⟩
    obtain ⟨g, rfl, hg1, hg2⟩ := own_some ho (by omega)
    obtain ⟨k0, k1⟩ := own_cellP ho HZ.out
    simp only at k0 k1
    obtain ⟨hc1, hf1, hs1⟩ := keepc hb1
    have hB1 : Below w.heap.size w w1 := Below.trans (by go_grown) (hb1.mono (by simp))
    have hl1 : w.heap.size < w1.heap.size := by simp at hs1; omega
    have z0 : w1.cell? ⟨w.heap.size, 0, none⟩ = some (.int .i64 0) := by rw [hc1 _ _ (by simp)]; simp [go_sem]
    have z1 : w1.cell? ⟨w.heap.size, 1, none⟩ = some (.int .i64 0) := by rw [hc1 _ _ (by simp)]; simp [go_sem]
    clear ho hb1 HC
    go_wp2_with fail
    exact bodyPost_ret (v := .tuple #[.agg #[.int .i64 x, .int .i64 y], .int .i64 0]) (by simp [results, Tryz.results67, go_sem, pair_set z0 z1]) rfl ⟨rfl, (hB1.setCell (p := ⟨w.heap.size, 0, none⟩) (Nat.le_refl _) _).setCell (p := ⟨w.heap.size, 1, none⟩) (Nat.le_refl _) _⟩
  · rw [show vlsT zs = (0, 0, scfC zs) from if_neg ht]
    have hne : (scfC zs != 0) = true := by rw [bne_iff_ne]; exact ht
    generalize scfC zs = k at *
    generalize scfL zs = fs at *
    clear ht hs
    go_enter Tryz.func67, Tryz.ntmps67
    go_wp2_with fail
    refine HC.out.mono ?_
    rintro e w1 ⟨⟨B, c, rfl, ho⟩, hb1⟩
    obtain ⟨hc1, hf1, hs1⟩ := keepc hb1
    have hB1 : Below w.heap.size w w1 := Below.trans (by go_grown) (hb1.mono (by simp))
    have hl1 : w.heap.size < w1.heap.size := by simp at hs1; omega
    have z0 : w1.cell? ⟨w.heap.size, 0, none⟩ = some (.int .i64 0) := by rw [hc1 _ _ (by simp)]; simp [go_sem]
    have z1 : w1.cell? ⟨w.heap.size, 1, none⟩ = some (.int .i64 0) := by rw [hc1 _ _ (by simp)]; simp [go_sem]
    clear ho hb1 HC
    go_wp2_with fail
    exact bodyPost_ret (v := .tuple #[.agg #[.int .i64 0, .int .i64 0], .int .i64 k]) (by simp [results, Tryz.results67, go_sem, pair_set z0 z1]) rfl ⟨rfl, (hB1.setCell (p := ⟨w.heap.size, 0, none⟩) (Nat.le_refl _) _).setCell (p := ⟨w.heap.size, 1, none⟩) (Nat.le_refl _) _⟩
/-- The short terms of the value of terms with signs, and a code. -/
def tfsL (zs : List (Int × Int)) : List Int := if scfC zs = 0 then expL (vlsT zs).1 (vlsT zs).2.1 else []
def tfsC (zs : List (Int × Int)) : Int := scfC zs
theorem tfsL_len (zs : List (Int × Int)) : (tfsL zs).length ≤ 1000000000 := by
  unfold tfsL
  split
  · exact expL_len _ _
  · simp
theorem tfsL_rng (zs : List (Int × Int)) : ∀ z ∈ tfsL zs, Rng z := by
  unfold tfsL
  split
  · exact expL_rng _ _
  · intro z hz; cases hz
theorem vls_ok {zs : List (Int × Int)} (h : scfC zs = 0) : vfB (vlsT zs).1 (vlsT zs).2.1 = true ∧ (vlsT zs).2.2 = 0 := by
  rw [show vlsT zs = ((lastP (scfL zs)).1, (lastP (scfL zs)).2, 0) from if_pos h]
  exact ⟨(scf_ok h).2.2.2, rfl⟩
theorem vls_bad {zs : List (Int × Int)} (h : scfC zs ≠ 0) : vlsT zs = (0, 0, scfC zs) := if_neg h
/-- The terms with signs of the value of terms, and a code. -/
def sftL (zs : List Int) (kd : Int) : List (Int × Int) := if (valT zs).2.2 = 0 then exsL (valT zs).1 (valT zs).2.1 kd else []
def sftC (zs : List Int) (kd : Int) : Int := if (valT zs).2.2 = 0 then exsC (valT zs).1 (valT zs).2.1 kd else (valT zs).2.2
theorem sftL_len (zs : List Int) (kd : Int) : (sftL zs kd).length ≤ 60 := by
  unfold sftL
  split
  · exact exsL_len _ _ _
  · simp
theorem sftL_rng (zs : List Int) (kd : Int) : ∀ z ∈ sftL zs kd, Rng z.1 ∧ Rng z.2 := by
  unfold sftL
  split
  · exact exsL_rng _ _ _
  · intro z hz; cases hz
end Go.Proofs.YtlpglibnjmjjkaaGreatDoor
namespace Go.Proofs.YtlpglibnjmjjkaaGreatDoor
open Go.RowKit
set_option linter.unusedVariables false
set_option linter.unusedSimpArgs false
attribute [local go_sem ↓] Go.wp_at_zero Go.wp_at_succ

/-- Are the terms those of their value by a kind. -/
def kosE (x y kd : Int) (zs : List (Int × Int)) : Bool := decide (exsC x y kd = 0) && sameB (exsL x y kd) zs
def kosB (zs : List (Int × Int)) (kd : Int) : Bool := sgnB zs && inB kd 1 4 && decide (scfC zs = 0) && kosE (vlsT zs).1 (vlsT zs).2.1 kd zs
def kosC (zs : List (Int × Int)) (kd : Int) : Int := if sgnB zs = true then (if inB kd 1 4 = true then 0 else 2) else 1

set_option maxHeartbeats 1600000 in
theorem implKos_any (A : Option Addr) (n cap : Nat) (zs : List (Int × Int)) (kd : Int) (w : World) (h : PRow w A n zs) (hcap : n ≤ cap) :
    Calls Tryz.prog 22 #[.slice A n cap, .int .i64 kd] w fun e w' => e = .returned (.tuple #[.bool (kosB zs kd), .int .i64 (kosC zs kd)]) ∧ Below w.heap.size w w' := by
  have HV := Lib.hid (validSigned_any A n cap zs w h hcap)
  have HK := Lib.hid (fun w => isKind_any kd w)
  cases hs : sgnB zs
  · rw [show kosB zs kd = false from by unfold kosB; rw [hs]; rfl, show kosC zs kd = 1 from if_neg (by simp [hs])]
    rw [hs] at HV
    go_enter Tryz.func22, Tryz.ntmps22
    go_wp2_with fail
    refine HV.out.mono ?_
    rintro e w0 ⟨rfl, hb0⟩
    go_wp2_with fail
    go_ret2
    exact ⟨rfl, hb0⟩
  · rw [hs] at HV
    cases hk : inB kd 1 4
    · rw [show kosB zs kd = false from by unfold kosB; rw [hs, hk]; rfl, show kosC zs kd = 2 from by unfold kosC; rw [if_pos hs, if_neg (by simp [hk])]]
      rw [hk] at HK
      go_enter Tryz.func22, Tryz.ntmps22
      go_wp2_with fail
      refine HV.out.mono ?_
      rintro e w0 ⟨rfl, hb0⟩
      go_wp2_with fail
      refine (HK.out _).mono ?_
      rintro e w' ⟨rfl, rfl⟩
      go_wp2_with fail
      go_ret2
      exact ⟨rfl, hb0⟩
    · rw [show kosC zs kd = 0 from by unfold kosC; rw [if_pos hs, if_pos hk]]
      rw [hk] at HK
      have HC := Lib.hid (fun w h => implVls_any A n cap zs w h hcap)
      by_cases ht : scfC zs = 0
      · rw [show kosB zs kd = kosE (vlsT zs).1 (vlsT zs).2.1 kd zs from by unfold kosB; rw [hs, hk, decide_eq_true ht]; rfl]
        rw [(vls_ok ht).2] at HC
        generalize (vlsT zs).1 = x at *
        generalize (vlsT zs).2.1 = y at *
        unfold kosE
        have HE := Lib.hid (fun w => implExs_any x y kd w)
        unfold ResS at HE
        have hr := exsL_rng x y kd
        have hl := exsL_len x y kd
        generalize exsL x y kd = fs at *
        generalize exsC x y kd = k at *
        have HR := Lib.hid hr
        have Hh := Lib.hid h
        clear ht hs hk h hr
        by_cases hk0 : k = 0
        · subst hk0
          rw [decide_eq_true (rfl : (0 : Int) = 0), Bool.true_and]
          go_enter Tryz.func22, Tryz.ntmps22
          go_wp2_with fail
          refine HV.out.mono ?_
          rintro e w0 ⟨rfl, hb0⟩
          go_wp2_with fail
          refine (HK.out _).mono ?_
          rintro e w' ⟨rfl, rfl⟩
          go_wp2_with fail
          refine (HC.out _ (Hh.out.below hb0)).mono ?_
          rintro e w1 ⟨rfl, hd1⟩
          have hb1 : Below w.heap.size w w1 := hb0.trans (hd1.mono hb0.size)
          clear hd1 hb0
          go_wp2_with fail
          refine (HE.out _).mono ?_
          rintro e w2 ⟨⟨B, c, rfl, ho⟩, hb2⟩
          have HO := Lib.hid ho
          have hB2 : Below w.heap.size w w2 := (hb1.alloc hb1.size _).trans (hb2.mono (by have := hb1.size; simp; omega))
          clear ho hb2 hb1
          go_wp2_with fail
          refine (implSame_b B _ c A n cap fs zs _ (PRow.of_own HO.out (by omega) HR.out) (Hh.out.below hB2)).mono ?_
          rintro e w3 ⟨rfl, hb3⟩
          go_wp2_with fail
          go_ret2
          exact ⟨rfl, hB2.trans (hb3.mono hB2.size)⟩
        · rw [decide_eq_false hk0, Bool.false_and]
          have hne : (k == 0) = false := by rw [beq_eq_false_iff_ne]; exact hk0
          go_enter Tryz.func22, Tryz.ntmps22
          go_wp2_with fail
          refine HV.out.mono ?_
          rintro e w0 ⟨rfl, hb0⟩
          go_wp2_with fail
          refine (HK.out _).mono ?_
          rintro e w' ⟨rfl, rfl⟩
          go_wp2_with fail
          refine (HC.out _ (Hh.out.below hb0)).mono ?_
          rintro e w1 ⟨rfl, hd1⟩
          have hb1 : Below w.heap.size w w1 := hb0.trans (hd1.mono hb0.size)
          clear hd1 hb0
          go_wp2_with fail
          refine (HE.out _).mono ?_
          rintro e w2 ⟨⟨B, c, rfl, ho⟩, hb2⟩
          have hB2 : Below w.heap.size w w2 := (hb1.alloc hb1.size _).trans (hb2.mono (by have := hb1.size; simp; omega))
          clear ho hb2 hb1
          go_wp2_with fail
          go_ret2
          exact ⟨rfl, hB2⟩
      · rw [show kosB zs kd = false from by unfold kosB; rw [hs, hk, decide_eq_false ht]; rfl]
        rw [vls_bad ht] at HC
        have hne : (scfC zs != 0) = true := by rw [bne_iff_ne]; exact ht
        generalize scfC zs = k at *
        have Hh := Lib.hid h
        clear ht hs hk h
        go_enter Tryz.func22, Tryz.ntmps22
        go_wp2_with fail
        refine HV.out.mono ?_
        rintro e w0 ⟨rfl, hb0⟩
        go_wp2_with fail
        refine (HK.out _).mono ?_
        rintro e w' ⟨rfl, rfl⟩
        go_wp2_with fail
        refine (HC.out _ (Hh.out.below hb0)).mono ?_
        rintro e w1 ⟨rfl, hd1⟩
        have hb1 : Below w.heap.size w w1 := hb0.trans (hd1.mono hb0.size)
        clear hd1 hb0
        go_wp2_with fail
        go_ret2
        exact ⟨rfl, hb1.alloc hb1.size _⟩
set_option maxHeartbeats 1600000 in
theorem specKos_any (A : Option Addr) (n cap : Nat) (zs : List (Int × Int)) (kd : Int) (w : World) (h : PRow w A n zs) :
    Calls Tryz.prog 23 #[.slice A n cap, .int .i64 kd] w fun e w' => e = .returned (.tuple #[.bool (kosB zs kd), .int .i64 (kosC zs kd)]) ∧ Below w.heap.size w w' := by
  have HV := Lib.hid (l04Ok_any A n cap zs w h)
  have HK := Lib.hid (fun w => l04Kind_any kd w)
  cases hs : sgnB zs
  · rw [show kosB zs kd = false from by unfold kosB; rw [hs]; rfl, show kosC zs kd = 1 from if_neg (by simp [hs])]
    rw [hs] at HV
    go_enter Tryz.func23, Tryz.ntmps23
    go_wp2_with fail
    refine HV.out.mono ?_
    rintro e w' ⟨rfl, rfl⟩
    go_wp2_with fail
    go_ret2
    exact ⟨rfl, Below.refl _ _⟩
  · rw [hs] at HV
    cases hk : inB kd 1 4
    · rw [show kosB zs kd = false from by unfold kosB; rw [hs, hk]; rfl, show kosC zs kd = 2 from by unfold kosC; rw [if_pos hs, if_neg (by simp [hk])]]
      rw [hk] at HK
      go_enter Tryz.func23, Tryz.ntmps23
      go_wp2_with fail
      refine HV.out.mono ?_
      rintro e w' ⟨rfl, rfl⟩
      go_wp2_with fail
      refine (HK.out _).mono ?_
      rintro e w' ⟨rfl, rfl⟩
      go_wp2_with fail
      go_ret2
      exact ⟨rfl, Below.refl _ _⟩
    · rw [show kosC zs kd = 0 from by unfold kosC; rw [if_pos hs, if_pos hk]]
      rw [hk] at HK
      have HC := Lib.hid (l04Value_any A n cap zs w h hs)
      by_cases ht : scfC zs = 0
      · rw [show kosB zs kd = kosE (vlsT zs).1 (vlsT zs).2.1 kd zs from by unfold kosB; rw [hs, hk, decide_eq_true ht]; rfl]
        rw [(vls_ok ht).2] at HC
        generalize (vlsT zs).1 = x at *
        generalize (vlsT zs).2.1 = y at *
        unfold kosE
        have HD := Lib.hid (fun w => l04Code_any x y kd w)
        have Hh := Lib.hid h
        clear ht hs hk h
        by_cases h0 : cdeK x y kd = 0
        · obtain ⟨e1, e2⟩ := exs_zero h0
          have HE := Lib.hid (fun w => l04Expand_any x y kd w h0)
          rw [h0] at HD
          rw [e1, e2]
          clear e1 e2 h0
          cases ho : exsO x y kd with
          | none =>
            rw [ho] at HE
            clear ho
            rw [show (decide ((if (none : Option (List (Int × Int))).isSome = true then (0 : Int) else 5) = 0) && sameB ((none : Option (List (Int × Int))).getD []) zs) = false from rfl]
            go_enter Tryz.func23, Tryz.ntmps23
            go_wp2_with fail
            refine HV.out.mono ?_
            rintro e w' ⟨rfl, rfl⟩
            go_wp2_with fail
            refine (HK.out _).mono ?_
            rintro e w' ⟨rfl, rfl⟩
            go_wp2_with fail
            refine HC.out.mono ?_
            rintro e w1 ⟨rfl, hb1⟩
            go_wp2_with fail
            refine (HD.out _).mono ?_
            rintro e w2 ⟨rfl, hb2⟩
            obtain ⟨hc2, hf2, hs2⟩ := keepc hb2
            have hB2 : Below w.heap.size w w2 := (hb1.alloc hb1.size _).trans (hb2.mono (by have := hb1.size; simp; omega))
            have z0 : w2.cell? ⟨w1.heap.size, 0, none⟩ = some (.int .i64 x) := by rw [hc2 _ _ (by simp)]; exact newcellA rfl rfl
            have z1 : w2.cell? ⟨w1.heap.size, 1, none⟩ = some (.int .i64 y) := by rw [hc2 _ _ (by simp)]; exact newcellA rfl rfl
            clear hb2 hb1 hc2 hf2 hs2
            go_wp2_with fail
            refine (HE.out _).mono ?_
            rintro e w3 ⟨⟨ys, A2, c2, rfl, ho2, hq, hr, hn⟩, hb3⟩
            clear ho2 hq hr
            go_wp2_with fail
            go_ret2
            exact ⟨rfl, hB2.trans (hb3.mono hB2.size)⟩
          | some l =>
            rw [ho] at HE
            clear ho
            rw [show (decide ((if (some l).isSome = true then (0 : Int) else 5) = 0) && sameB ((some l).getD []) zs) = sameB l zs from rfl]
            go_enter Tryz.func23, Tryz.ntmps23
            go_wp2_with fail
            refine HV.out.mono ?_
            rintro e w' ⟨rfl, rfl⟩
            go_wp2_with fail
            refine (HK.out _).mono ?_
            rintro e w' ⟨rfl, rfl⟩
            go_wp2_with fail
            refine HC.out.mono ?_
            rintro e w1 ⟨rfl, hb1⟩
            go_wp2_with fail
            refine (HD.out _).mono ?_
            rintro e w2 ⟨rfl, hb2⟩
            obtain ⟨hc2, hf2, hs2⟩ := keepc hb2
            have hB2 : Below w.heap.size w w2 := (hb1.alloc hb1.size _).trans (hb2.mono (by have := hb1.size; simp; omega))
            have z0 : w2.cell? ⟨w1.heap.size, 0, none⟩ = some (.int .i64 x) := by rw [hc2 _ _ (by simp)]; exact newcellA rfl rfl
            have z1 : w2.cell? ⟨w1.heap.size, 1, none⟩ = some (.int .i64 y) := by rw [hc2 _ _ (by simp)]; exact newcellA rfl rfl
            clear hb2 hb1 hc2 hf2 hs2
            go_wp2_with fail
            refine (HE.out _).mono ?_
            rintro e w3 ⟨⟨ys, A2, c2, rfl, ho2, hq, hr, hn⟩, hb3⟩
            obtain rfl := hq l rfl
            have HO := Lib.hid ho2
            have HR := Lib.hid hr
            have hB3 : Below w.heap.size w w3 := hB2.trans (hb3.mono hB2.size)
            clear ho2 hq hr hb3 hB2
            go_wp2_with fail
            refine (l04Same_any A2 _ c2 A n cap ys zs _ (PRow.of_own HO.out (by omega) HR.out) (Hh.out.below hB3)).mono ?_
            rintro e w4 ⟨rfl, m, rfl⟩
            go_wp2_with fail
            go_ret2
            exact ⟨rfl, hB3.trans (below_drewN _ _ _)⟩
        · obtain ⟨e1, e2⟩ := exs_code h0
          rw [e1, e2, decide_eq_false h0, Bool.false_and]
          have hne : (cdeK x y kd != 0) = true := by rw [bne_iff_ne]; exact h0
          generalize cdeK x y kd = k at *
          clear e1 e2 h0
          go_enter Tryz.func23, Tryz.ntmps23
          go_wp2_with fail
          refine HV.out.mono ?_
          rintro e w' ⟨rfl, rfl⟩
          go_wp2_with fail
          refine (HK.out _).mono ?_
          rintro e w' ⟨rfl, rfl⟩
          go_wp2_with fail
          refine HC.out.mono ?_
          rintro e w1 ⟨rfl, hb1⟩
          go_wp2_with fail
          refine (HD.out _).mono ?_
          rintro e w2 ⟨rfl, hb2⟩
          have hB2 : Below w.heap.size w w2 := (hb1.alloc hb1.size _).trans (hb2.mono (by have := hb1.size; simp; omega))
          clear hb2 hb1
          go_wp2_with fail
          go_ret2
          exact ⟨rfl, hB2⟩
      · rw [show kosB zs kd = false from by unfold kosB; rw [hs, hk, decide_eq_false ht]; rfl]
        rw [vls_bad ht] at HC
        have hne : (scfC zs != 0) = true := by rw [bne_iff_ne]; exact ht
        generalize scfC zs = k at *
        clear ht hs hk h
        go_enter Tryz.func23, Tryz.ntmps23
        go_wp2_with fail
        refine HV.out.mono ?_
        rintro e w' ⟨rfl, rfl⟩
        go_wp2_with fail
        refine (HK.out _).mono ?_
        rintro e w' ⟨rfl, rfl⟩
        go_wp2_with fail
        refine HC.out.mono ?_
        rintro e w1 ⟨rfl, hb1⟩
        go_wp2_with fail
        go_ret2
        exact ⟨rfl, hb1.alloc hb1.size _⟩
end Go.Proofs.YtlpglibnjmjjkaaGreatDoor
namespace Go.Proofs.YtlpglibnjmjjkaaGreatDoor
open Go.Lib
set_option linter.unusedVariables false

/-- Pieces with blanks between them. -/
def jnT : List (List UInt8) → List UInt8
  | [] => []
  | p :: r => 32 :: (p ++ jnT r)
def jnL : List (List UInt8) → List UInt8
  | [] => []
  | p :: r => p ++ jnT r
theorem splL_app (c : UInt8) : ∀ (a b : List UInt8), a.count c = 0 → splL c (a ++ c :: b) = a :: splL c b
  | [], b, _ => splL_eq c b
  | x :: a, b, h => by
    have hx : x ≠ c := fun e => by subst e; rw [List.count_cons_self] at h; omega
    rw [List.count_cons_of_ne (fun e => hx e)] at h
    rw [List.cons_append, splL_cons hx, splL_app c a b h]; rfl
theorem splL_jn : ∀ (ps : List (List UInt8)) (p : List UInt8), (∀ q ∈ p :: ps, q.count 32 = 0) → splL 32 (jnL (p :: ps)) = p :: ps
  | [], p, h => by
    show splL 32 (p ++ []) = _
    rw [List.append_nil, splL_none 32 p (h p (by simp))]
  | q :: ps, p, h => by
    show splL 32 (p ++ 32 :: jnL (q :: ps)) = _
    rw [splL_app 32 p _ (h p (by simp)), splL_jn ps q (fun x hx => h x (by simp at hx ⊢; exact .inr hx))]
theorem jn_pre (b : UInt8) : ∀ ps : List (List UInt8), ps ≠ [] → jnL (preP [b] ps) = b :: jnL ps
  | p :: r, _ => rfl
theorem jn_spl : ∀ l : List UInt8, jnL (splL 32 l) = l
  | [] => rfl
  | b :: r => by
    have ih := jn_spl r
    have hne := splL_ne 32 r
    by_cases hb : b = 32
    · subst hb
      rw [splL_eq]
      match hs : splL 32 r, hne with
      | p :: t, _ =>
        rw [hs] at ih
        show 32 :: (p ++ jnT t) = _
        rw [show p ++ jnT t = r from ih]
    · rw [splL_cons hb, jn_pre b _ hne, ih]
/-- One piece behind the first, read: as the reference reads it, as the program does. -/
def rs1 : List UInt8 → Option (Int × Int)
  | [] => none
  | b :: r => if b = 43 then (if rdB r = true then some (1, valI r) else none) else if b = 45 then (if rdB r = true then some (-1, valI r) else none) else none
def rl1 : List UInt8 → Option (Int × Int)
  | [] => none
  | b :: r => if b = 43 then (if rdB r = true then some (1, valI r) else none) else if b = 45 then (if rdB r = true then some (-1, valI r) else none) else if rdB (b :: r) = true then some (-1, valI (b :: r)) else none
def rd1 (p : List UInt8) : Option (Int × Int) := if rdB p = true then some (1, valI p) else none
def rsE (j : Nat) (p : List UInt8) : Option (Int × Int) := if j = 0 then rd1 p else rs1 p
def rlE (j : Nat) (p : List UInt8) : Option (Int × Int) := if j = 0 then rd1 p else rl1 p
/-- All pieces read. -/
def AllR (E : Nat → List UInt8 → Option (Int × Int)) (ls : List (List UInt8)) (zs : List (Int × Int)) : Prop := zs.length = ls.length ∧ ∀ j p, ls[j]? = some p → E j p = zs[j]?
theorem AllR.uniq {E : Nat → List UInt8 → Option (Int × Int)} {ls : List (List UInt8)} {zs zs' : List (Int × Int)} (h : AllR E ls zs) (h' : AllR E ls zs') : zs = zs' := by
  apply List.ext_getElem?
  intro j
  cases hp : ls[j]? with
  | none =>
    have := List.getElem?_eq_none_iff.1 hp
    rw [List.getElem?_eq_none (by rw [h.1]; exact this), List.getElem?_eq_none (by rw [h'.1]; exact this)]
  | some p => rw [← h.2 j p hp, ← h'.2 j p hp]
/-- The terms with signs that a text spells. -/
def Rg (s : ByteArray) (zs : List (Int × Int)) : Prop := AllR rsE (splL 32 s.data.toList) zs ∧ sgnB zs = true
/-- What is read: the terms and true, or none and false. -/
def RgR (s : ByteArray) (R : List (Int × Int)) (b : Bool) : Prop := (b = true ∧ Rg s R) ∨ (b = false ∧ R = [] ∧ ∀ zs, ¬ Rg s zs)
theorem RgR.exists (s : ByteArray) : ∃ R b, RgR s R b := by
  by_cases h : ∃ zs, Rg s zs
  · obtain ⟨zs, h⟩ := h; exact ⟨zs, true, .inl ⟨rfl, h⟩⟩
  · exact ⟨[], false, .inr ⟨rfl, rfl, fun zs hz => h ⟨zs, hz⟩⟩⟩
theorem RgR.no {s : ByteArray} {R : List (Int × Int)} {b : Bool} (h : RgR s R b) (hn : ∀ zs, ¬ Rg s zs) : b = false ∧ R = [] := by
  rcases h with ⟨_, h⟩ | ⟨h1, h2, _⟩
  · exact absurd h (hn R)
  · exact ⟨h1, h2⟩
theorem RgR.yes {s : ByteArray} {R zs : List (Int × Int)} {b : Bool} (h : RgR s R b) (hz : Rg s zs) : b = true ∧ R = zs := by
  rcases h with ⟨h1, h⟩ | ⟨_, _, h⟩
  · exact ⟨h1, h.1.uniq hz.1⟩
  · exact absurd hz (h zs)
/-- A piece that cannot be read. -/
theorem Rg.not {s : ByteArray} {j : Nat} {p : List UInt8} (h : (splL 32 s.data.toList)[j]? = some p) (he : rsE j p = none) : ∀ zs, ¬ Rg s zs := by
  intro zs hz
  have h1 := hz.1.2 j p h
  rw [he] at h1
  have h2 := List.getElem?_eq_none_iff.1 h1.symm
  have h3 := (List.getElem?_eq_some_iff.1 h).1
  have := hz.1.1
  omega
theorem rs1_p (r : List UInt8) : rs1 (43 :: r) = (if rdB r = true then some (1, valI r) else none) := rfl
theorem rs1_m (r : List UInt8) : rs1 (45 :: r) = (if rdB r = true then some (-1, valI r) else none) := rfl
theorem rs1_o {b : UInt8} (r : List UInt8) (h1 : b ≠ 43) (h2 : b ≠ 45) : rs1 (b :: r) = none := by unfold rs1; simp [h1, h2]
theorem rl1_p (r : List UInt8) : rl1 (43 :: r) = (if rdB r = true then some (1, valI r) else none) := rfl
theorem rl1_m (r : List UInt8) : rl1 (45 :: r) = (if rdB r = true then some (-1, valI r) else none) := rfl
theorem rl1_o {b : UInt8} (r : List UInt8) (h1 : b ≠ 43) (h2 : b ≠ 45) : rl1 (b :: r) = if rdB (b :: r) = true then some (-1, valI (b :: r)) else none := by unfold rl1; simp [h1, h2]
theorem rl_none {j : Nat} {p : List UInt8} (h : rlE j p = none) : rsE j p = none := by
  unfold rlE at h
  unfold rsE
  by_cases hj : j = 0
  · rw [if_pos hj] at h ⊢; exact h
  · rw [if_neg hj] at h ⊢
    match p, h with
    | [], _ => rfl
    | b :: r, h =>
      by_cases h1 : b = 43
      · subst h1; exact h
      · by_cases h2 : b = 45
        · subst h2; exact h
        · exact rs1_o r h1 h2
def sgB (s : Int) : UInt8 := if s < 0 then 45 else 43
/-- The pieces of the text of terms with signs. -/
def pcsR (r : List (Int × Int)) : List (List UInt8) := r.map fun z => sgB z.1 :: itoa z.2
def pcs : List (Int × Int) → List (List UInt8)
  | [] => []
  | z :: r => itoa z.2 :: pcsR r
theorem jnT_pcs : ∀ r : List (Int × Int), jnT (pcsR r) = stL r
  | [] => rfl
  | z :: r => by
    show 32 :: (sgB z.1 :: itoa z.2 ++ jnT (pcsR r)) = mkS z.1 ++ itoa z.2 ++ stL r
    rw [jnT_pcs r]
    unfold sgB mkS
    split <;> simp
theorem jn_pcs (zs : List (Int × Int)) : jnL (pcs zs) = sgL zs := by
  cases zs with
  | nil => rfl
  | cons z r => show itoa z.2 ++ jnT (pcsR r) = itoa z.2 ++ stL r; rw [jnT_pcs]
theorem itoa_no32 (n : Int) : (itoa n).count 32 = 0 := by
  rw [List.count_eq_zero]
  intro hm
  have hb := itoa_bytes n 32 hm
  have : (32 : UInt8).toNat = 32 := by decide
  omega
theorem spl_pcs {zs : List (Int × Int)} (h : zs ≠ []) : splL 32 (sgL zs) = pcs zs := by
  rw [← jn_pcs]
  match zs, h with
  | z :: r, _ =>
    refine splL_jn (pcsR r) (itoa z.2) (fun q hq => ?_)
    rcases List.mem_cons.1 hq with hq | hq
    · rw [hq]; exact itoa_no32 _
    · unfold pcsR at hq
      obtain ⟨y, _, rfl⟩ := List.mem_map.1 hq
      have : (sgB y.1 :: itoa y.2).count 32 = (itoa y.2).count 32 := List.count_cons_of_ne (by unfold sgB; split <;> decide)
      rw [this]; exact itoa_no32 _
theorem rd1_nil : rd1 [] = none := by
  unfold rd1
  rw [if_neg]
  intro h
  exact (rdB_form h).2.2.2.1 rfl
theorem rs_sign {p : List UInt8} {z : Int × Int} (h : rs1 p = some z) : p = sgB z.1 :: itoa z.2 := by
  match p, h with
  | [], h => cases h
  | b :: r, h =>
    by_cases h1 : b = 43
    · subst h1
      rw [rs1_p] at h
      split at h
      · next hr => injection h with h; subst h; show _ = 43 :: itoa (valI r); rw [(rdB_iff.1 hr).2]
      · cases h
    · by_cases h2 : b = 45
      · subst h2
        rw [rs1_m] at h
        split at h
        · next hr => injection h with h; subst h; show _ = 45 :: itoa (valI r); rw [(rdB_iff.1 hr).2]
        · cases h
      · rw [rs1_o r h1 h2] at h; cases h
theorem rl_rs {p : List UInt8} {b : UInt8} {r : List UInt8} (hp : p = b :: r) (h : b = 43 ∨ b = 45) : rl1 p = rs1 p := by
  subst hp
  rcases h with rfl | rfl <;> rfl
/-- Loosely read terms have the text if and only if they are the terms that it spells. -/
theorem rl_text {s : ByteArray} {zs : List (Int × Int)} (h : AllR rlE (splL 32 s.data.toList) zs) : sgS zs = s ↔ Rg s zs := by
  have hne : zs ≠ [] := fun e => by
    have h1 := h.1
    rw [e] at h1
    exact splL_ne 32 s.data.toList (List.eq_nil_of_length_eq_zero h1.symm)
  have h0 : ∀ p, (splL 32 s.data.toList)[0]? = some p → rd1 p = zs[0]? := fun p hp => h.2 0 p hp
  constructor
  · intro e
    have hv : sgnB zs = true := by
      cases hv : sgnB zs
      · exfalso
        rw [show sgS zs = ⟨#[]⟩ from if_neg (by rw [hv]; decide)] at e
        rw [← e] at h0
        have := h0 [] rfl
        rw [rd1_nil] at this
        match zs, hne with
        | z :: r, _ => cases this
      · rfl
    refine ⟨⟨h.1, fun j p hp => ?_⟩, hv⟩
    rw [← h.2 j p hp]
    unfold rsE rlE
    split
    · rfl
    · next hj =>
      have hd : s.data.toList = sgL zs := by
        rw [← e, show sgS zs = ⟨(sgL zs).toArray⟩ from if_pos hv, data_mk]
      rw [hd, spl_pcs hne] at hp
      match zs, hne with
      | z :: r, _ =>
        obtain ⟨i, rfl⟩ : ∃ i, j = i + 1 := ⟨j - 1, by omega⟩
        have hp' : (pcsR r)[i]? = some p := hp
        unfold pcsR at hp'
        rw [List.getElem?_map] at hp'
        cases hy : r[i]? with
        | none => rw [hy] at hp'; cases hp'
        | some y =>
          rw [hy] at hp'
          injection hp' with hp'
          exact (rl_rs hp'.symm (by unfold sgB; split; exact .inr rfl; exact .inl rfl)).symm
  · intro hR
    refine str_ext ?_
    rw [show sgS zs = ⟨(sgL zs).toArray⟩ from if_pos hR.2, data_mk, ← jn_pcs, ← jn_spl s.data.toList]
    congr 1
    match zs, hne with
    | z :: r, _ =>
      apply List.ext_getElem?
      intro j
      cases hp : (splL 32 s.data.toList)[j]? with
      | none =>
        have hl := List.getElem?_eq_none_iff.1 hp
        rw [List.getElem?_eq_none]
        have := hR.1.1
        show (itoa z.2 :: pcsR r).length ≤ j
        unfold pcsR
        simp at this ⊢; omega
      | some p =>
        have hz := hR.1.2 j p hp
        cases j with
        | zero =>
          have hz : rd1 p = some z := hz
          unfold rd1 at hz
          split at hz
          · next hr =>
            injection hz with hz
            show some (itoa z.2) = some p
            rw [← hz, (rdB_iff.1 hr).2]
          · cases hz
        | succ i =>
          have hz : rs1 p = r[i]? := hz
          show (pcsR r)[i]? = some p
          unfold pcsR
          rw [List.getElem?_map]
          cases hy : r[i]? with
          | none =>
            exfalso
            have h1 := List.getElem?_eq_none_iff.1 hy
            have h2 := (List.getElem?_eq_some_iff.1 hp).1
            have := hR.1.1
            simp at this; omega
          | some y =>
            rw [hy] at hz
            rw [rs_sign hz]; rfl
theorem AllR.start {E : Nat → List UInt8 → Option (Int × Int)} : AllR E [] [] := ⟨rfl, fun j p h => by simp at h⟩
theorem AllR.step {E : Nat → List UInt8 → Option (Int × Int)} {ls : List (List UInt8)} {k : Nat} {p : List UInt8} {zs : List (Int × Int)} {z : Int × Int} (h : AllR E (ls.take k) zs) (hp : ls[k]? = some p) (hz : E k p = some z) : AllR E (ls.take (k + 1)) (zs ++ [z]) := by
  have hk := (List.getElem?_eq_some_iff.1 hp).1
  have hl : zs.length = k := by rw [h.1, List.length_take]; omega
  refine ⟨by rw [List.length_append, hl, List.length_take]; simp; omega, fun j q hq => ?_⟩
  rw [List.getElem?_take] at hq
  split at hq
  · next hj =>
    by_cases hjk : j = k
    · subst hjk
      rw [hp] at hq
      injection hq with hq
      rw [← hq, hz, List.getElem?_append_right (by omega), hl]; simp
    · rw [List.getElem?_append_left (by omega)]
      exact h.2 j q (by rw [List.getElem?_take, if_pos (by omega)]; exact hq)
  · cases hq
theorem AllR.all {E : Nat → List UInt8 → Option (Int × Int)} {ls : List (List UInt8)} {zs : List (Int × Int)} (h : AllR E (ls.take ls.length) zs) : AllR E ls zs := by rwa [List.take_length] at h
end Go.Proofs.YtlpglibnjmjjkaaGreatDoor
namespace Go.Proofs.YtlpglibnjmjjkaaGreatDoor
open Go.Lib
set_option linter.unusedVariables false

theorem itoa_one : itoa 1 = [49] := by
  unfold itoa
  rw [if_neg (by omega)]
  show decDigits 1 = _
  rw [dec_small (by omega)]; rfl
theorem rd_one : rdB [49] = true ∧ valI [49] = 1 := by
  have h := rdB_itoa (n := 1) (by decide)
  have h' := val_itoa 1
  rw [itoa_one] at h h'
  exact ⟨h, h'⟩
/-- The fraction that pieces spell. -/
def rfP : List (List UInt8) → Option (Int × Int)
  | [a] => if rdB a = true ∧ vfB (valI a) 1 = true then some (valI a, 1) else none
  | [a, b] => if rdB a = true ∧ rdB b = true ∧ valI b ≠ 1 ∧ vfB (valI a) (valI b) = true then some (valI a, valI b) else none
  | _ => none
/-- The fraction that a text spells. -/
def rfO (s : ByteArray) : Option (Int × Int) := rfP (splL 47 s.data.toList)
def rfT (s : ByteArray) : Int × Int × Bool := match rfO s with
  | some z => (z.1, z.2, true)
  | none => (0, 0, false)
theorem rfT_some {s : ByteArray} {z : Int × Int} (h : rfO s = some z) : rfT s = (z.1, z.2, true) := by unfold rfT; rw [h]
theorem rfT_none {s : ByteArray} (h : rfO s = none) : rfT s = (0, 0, false) := by unfold rfT; rw [h]
theorem rd_no47 {b : List UInt8} (h : rdB b = true) : b.count 47 = 0 := by
  rw [List.count_eq_zero]
  intro hm
  have hb := itoa_bytes (valI b) 47 (by rw [(rdB_iff.1 h).2]; exact hm)
  have : (47 : UInt8).toNat = 47 := by decide
  omega
/-- A text without the byte. -/
theorem cut_none {l : List UInt8} (h : index l [47] = -1) : cut l [47] = (l, [], false) ∧ splL 47 l = [l] := by
  refine ⟨?_, splL_none 47 l (index_none 47 l h)⟩
  unfold cut
  rw [if_neg (by omega)]
theorem index_hit (c : UInt8) : ∀ (l : List UInt8) (i : Nat), index l [c] = i → l = l.take i ++ c :: l.drop (i + 1) ∧ splL c l = l.take i :: splL c (l.drop (i + 1))
  | [], i, h => by rw [index] at h; simp at h
  | b :: r, i, h => by
    rw [index_cons] at h
    by_cases hb : b = c
    · rw [if_pos hb] at h
      have : i = 0 := by omega
      subst this hb
      exact ⟨rfl, splL_eq b r⟩
    · rw [if_neg hb] at h
      have hge := index_ge r [c]
      split at h
      · omega
      · obtain ⟨j, rfl⟩ : ∃ j, i = j + 1 := ⟨i - 1, by omega⟩
        obtain ⟨h1, h2⟩ := index_hit c r j (by omega)
        refine ⟨?_, ?_⟩
        · show b :: r = b :: (r.take j ++ c :: r.drop (j + 1))
          rw [← h1]
        · rw [splL_cons hb, h2]; rfl
theorem cut_some {l : List UInt8} (h : index l [47] ≠ -1) : ∃ a b, cut l [47] = (a, b, true) ∧ l = a ++ 47 :: b ∧ splL 47 l = a :: splL 47 b := by
  have hge := index_ge l [47]
  obtain ⟨i, hi⟩ : ∃ i : Nat, index l [47] = i := ⟨(index l [47]).toNat, by omega⟩
  obtain ⟨h1, h2⟩ := index_hit 47 l i hi
  refine ⟨l.take i, l.drop (i + 1), ?_, h1, h2⟩
  unfold cut
  rw [hi, if_pos (by omega)]
  have e2 : (i : Int).toNat = i := by omega
  rw [e2]; rfl
theorem rfP_two {a b : List UInt8} : rfP (a :: splL 47 b) = if rdB a = true ∧ rdB b = true ∧ valI b ≠ 1 ∧ vfB (valI a) (valI b) = true then some (valI a, valI b) else none := by
  by_cases hc : b.count 47 = 0
  · rw [splL_none 47 b hc]; rfl
  · have hb : rdB b = false := by
      cases h : rdB b
      · rfl
      · exact absurd (rd_no47 h) hc
    rw [if_neg (by rw [hb]; simp)]
    have hl := splL_len 47 b
    match hs : splL 47 b, hl with
    | [], hl => simp at hl
    | [x], hl => simp at hl; omega
    | x :: y :: r, _ => rfl
/-- What the program finds where the byte stands in the text. -/
theorem rf_two {s : ByteArray} {a b : List UInt8} (h : s.data.toList = a ++ 47 :: b) (hs : splL 47 s.data.toList = a :: splL 47 b) :
    (rdB a = false ∨ rdB b = false → rfO s = none) ∧ (rdB a = true → rdB b = true → (frS (valI a) (valI b) = s ∧ rfO s = some (valI a, valI b)) ∨ (frS (valI a) (valI b) ≠ s ∧ rfO s = none)) := by
  have e : rfO s = if rdB a = true ∧ rdB b = true ∧ valI b ≠ 1 ∧ vfB (valI a) (valI b) = true then some (valI a, valI b) else none := by
    unfold rfO; rw [hs, rfP_two]
  refine ⟨fun h => ?_, fun ha hb => ?_⟩
  · rw [e, if_neg]
    rintro ⟨h1, h2, _⟩
    rw [h1, h2] at h
    rcases h with h | h <;> cases h
  · have ea := (rdB_iff.1 ha).2
    have eb := (rdB_iff.1 hb).2
    have hne : ∀ x y : Int, frS x y = s → (frS x y).data.toList = a ++ 47 :: b := fun x y k => by rw [k, h]
    by_cases hv : vfB (valI a) (valI b) = true
    · by_cases h1 : valI b = 1
      · right
        refine ⟨fun k => ?_, by rw [e, if_neg (fun k => k.2.2.1 h1)]⟩
        have := hne _ _ k
        unfold frS at this
        rw [if_pos hv, if_pos h1, decS_data, ea] at this
        have := congrArg List.length this
        simp at this
      · left
        refine ⟨?_, by rw [e, if_pos ⟨ha, hb, h1, hv⟩]⟩
        refine str_ext ?_
        unfold frS
        rw [if_pos hv, if_neg h1, data_app, data_app, decS_data, decS_data, ea, eb, h]
        simp
    · right
      refine ⟨fun k => ?_, by rw [e, if_neg (fun k => hv k.2.2.2)]⟩
      have := hne _ _ k
      unfold frS at this
      rw [if_neg hv] at this
      have := congrArg List.length this
      simp at this
theorem rf_one {s : ByteArray} (hs : splL 47 s.data.toList = [s.data.toList]) :
    (rdB s.data.toList = false → rfO s = none) ∧ (rdB s.data.toList = true → (frS (valI s.data.toList) 1 = s ∧ rfO s = some (valI s.data.toList, 1)) ∨ (frS (valI s.data.toList) 1 ≠ s ∧ rfO s = none)) := by
  have e : rfO s = if rdB s.data.toList = true ∧ vfB (valI s.data.toList) 1 = true then some (valI s.data.toList, 1) else none := by
    unfold rfO; rw [hs]; rfl
  refine ⟨fun h => by rw [e, if_neg (by rw [h]; simp)], fun ha => ?_⟩
  have ea := (rdB_iff.1 ha).2
  have hne := (rdB_form ha).2.2.2.1
  by_cases hv : vfB (valI s.data.toList) 1 = true
  · left
    refine ⟨?_, by rw [e, if_pos ⟨ha, hv⟩]⟩
    unfold frS
    rw [if_pos hv, if_pos rfl]
    exact decS_eq.2 ea
  · right
    refine ⟨fun k => ?_, by rw [e, if_neg (fun k => hv k.2)]⟩
    unfold frS at k
    rw [if_neg hv] at k
    have : s.data.toList = [] := by rw [← k]
    rw [this] at hne
    exact hne rfl
end Go.Proofs.YtlpglibnjmjjkaaGreatDoor
namespace Go.Proofs.YtlpglibnjmjjkaaGreatDoor
open Go.Lib
set_option linter.unusedVariables false

theorem cross_mul {x y num den : Int} (hy : 1 ≤ y) (hg : Int.gcd x y = 1) (h : num * y = x * den) : ∃ k, num = k * x ∧ den = k * y := by
  have hd : y ∣ x * den := ⟨num, by rw [← h, Int.mul_comm]⟩
  have hd2 : y ∣ den := by
    have h1 := Int.dvd_gcd_mul_iff_dvd_mul.2 hd
    rw [Int.gcd_comm, hg] at h1
    simpa using h1
  obtain ⟨k, hk⟩ := hd2
  refine ⟨k, ?_, by rw [hk, Int.mul_comm]⟩
  have : num * y = (k * x) * y := by rw [h, hk, Int.mul_comm k x, Int.mul_assoc, Int.mul_comm y k]
  exact Int.eq_of_mul_eq_mul_right (by omega) this
theorem plR_mul {x y k : Int} (hv : vfB x y = true) (hk : k ≠ 0) : plR (k * x) (k * y) = (x, y, 0) := by
  obtain ⟨y1, _, _, _, hg⟩ := vfB_iff.1 hv
  have hG : plG (k * x) (k * y) = k := by
    unfold plG
    rw [Int.gcd_mul_left, hg]
    rcases Int.lt_or_lt_of_ne hk with h | h
    · have : k * y < 0 := Int.mul_neg_of_neg_of_pos h (by omega)
      rw [if_pos this]; omega
    · have : 0 < k * y := Int.mul_pos h (by omega)
      rw [if_neg (by omega)]; omega
  rw [plR_eq hG, Int.mul_comm k x, Int.mul_comm k y, Int.mul_tdiv_cancel _ hk, Int.mul_tdiv_cancel _ hk, if_pos hv]
/-- A quotient equal to a fraction in lowest terms. -/
theorem plR_cross {x y num den : Int} (hv : vfB x y = true) (hd : den ≠ 0) (h : num * y = x * den) : plR num den = (x, y, 0) := by
  obtain ⟨y1, _, _, _, hg⟩ := vfB_iff.1 hv
  obtain ⟨k, rfl, rfl⟩ := cross_mul y1 hg h
  exact plR_mul hv (fun e => hd (by rw [e, Int.zero_mul]))
theorem low_uniq {x y u v : Int} (hv : vfB x y = true) (hv' : vfB u v = true) (h : x * v = u * y) : x = u ∧ y = v := by
  have h1 := plR_mul hv (k := 1) (by omega)
  obtain ⟨y1, _⟩ := vfB_iff.1 hv
  have h2 := plR_cross (num := x) (den := y) hv' (by omega) h
  rw [Int.one_mul, Int.one_mul, h2] at h1
  injection h1 with e1 e2
  injection e2 with e2 _
  exact ⟨e1.symm, e2.symm⟩
/-- Lowest terms of a quotient with positive denominator. -/
theorem plR_ex {num den : Int} (h1 : 1 ≤ den) (h2 : den ≤ 1000000000) (h3 : -1000000000 ≤ num) (h4 : num ≤ 1000000000) :
    ∃ n d g, plR num den = (n, d, 0) ∧ vfB n d = true ∧ num = n * g ∧ den = d * g ∧ 1 ≤ g := by
  have hg := gcd_pos (a := num) (.inr (show 0 < den by omega))
  obtain ⟨n, hn⟩ := Int.gcd_dvd_left num den
  obtain ⟨d, hd⟩ := Int.gcd_dvd_right num den
  obtain ⟨g, hgg⟩ : ∃ g : Int, g = (Int.gcd num den : Nat) := ⟨_, rfl⟩
  rw [← hgg] at hn hd
  have g1 : 1 ≤ g := by omega
  have hc : Int.gcd n d = 1 := by
    have h := Int.gcd_mul_left g n d
    rw [← hn, ← hd] at h
    have e : g.natAbs = Int.gcd num den := by omega
    rw [e] at h
    have hp : 0 < Int.gcd num den := hg
    exact Nat.eq_of_mul_eq_mul_left hp (by rw [Nat.mul_one]; exact h.symm)
  have d1 : 1 ≤ d := by
    rcases Int.lt_or_le 0 d with h | h
    · exact h
    · have := Int.mul_nonpos_of_nonneg_of_nonpos (show 0 ≤ g by omega) h; omega
  have hdl : d ≤ den := by
    have := Int.mul_le_mul_of_nonneg_right g1 (show 0 ≤ d by omega)
    rw [Int.one_mul, ← hd] at this; exact this
  have hnl : n.natAbs ≤ num.natAbs := by
    rw [hn, Int.natAbs_mul]
    exact Nat.le_mul_of_pos_left _ (by omega)
  have hv : vfB n d = true := vfB_iff.2 ⟨d1, by omega, by omega, by omega, hc⟩
  refine ⟨n, d, g, ?_, hv, by rw [hn, Int.mul_comm], by rw [hd, Int.mul_comm], g1⟩
  refine plR_cross hv (by omega) ?_
  rw [hn, hd, Int.mul_comm g n, Int.mul_assoc]
theorem cmpI_neg (x y : Int) : cmpI y x = -cmpI x y := by
  unfold cmpI
  split <;> split <;> (try split) <;> omega
theorem cmpI_zero (x y : Int) : cmpI x y = 0 ↔ x = y := by
  unfold cmpI
  constructor
  · intro h; split at h
    · omega
    · split at h <;> omega
  · intro h; rw [if_neg (by omega), if_neg (by omega)]
theorem cmpI_scale {a b c d g : Int} (hg : 1 ≤ g) (h : (a - b) * g = c - d) : cmpI a b = cmpI c d := by
  unfold cmpI
  rcases (by omega : a < b ∨ b < a ∨ a = b) with h1 | h1 | h1
  · have : (a - b) * g < 0 := Int.mul_neg_of_neg_of_pos (by omega) (by omega)
    rw [if_pos h1, if_pos (by omega)]
  · have : 0 < (a - b) * g := Int.mul_pos (by omega) (by omega)
    rw [if_neg (by omega), if_pos h1, if_neg (by omega), if_pos (by omega)]
  · have : (a - b) * g = 0 := by rw [h1, Int.sub_self, Int.zero_mul]
    rw [if_neg (by omega), if_neg (by omega), if_neg (by omega), if_neg (by omega)]
/-- A valid fraction's text is read as the fraction. -/
theorem rf_text {x y : Int} (hv : vfB x y = true) : rfT (frS x y) = (x, y, true) := by
  obtain ⟨y1, y2, x1, x2, _⟩ := vfB_iff.1 hv
  have hx := rdB_itoa (n := x) (by omega)
  have hy := rdB_itoa (n := y) (by omega)
  refine rfT_some (z := (x, y)) ?_
  unfold rfO frS
  rw [if_pos hv]
  by_cases h1 : y = 1
  · subst h1
    rw [if_pos rfl, decS_data, splL_none 47 _ (rd_no47 hx)]
    show (if _ then _ else _) = _
    rw [val_itoa, if_pos ⟨hx, hv⟩]
  · rw [if_neg h1, data_app, data_app, decS_data, decS_data]
    have e : Lib.itoa x ++ (⟨#[47]⟩ : ByteArray).data.toList ++ Lib.itoa y = Lib.itoa x ++ 47 :: Lib.itoa y := by simp
    rw [e, splL_app 47 _ _ (rd_no47 hx), splL_none 47 _ (rd_no47 hy)]
    show (if _ then _ else _) = _
    rw [val_itoa, val_itoa, if_pos ⟨hx, hy, h1, hv⟩]
theorem small_mul {x y a b : Int} (h1 : -a ≤ x) (h2 : x ≤ a) (h3 : -b ≤ y) (h4 : y ≤ b) : -(a * b) ≤ x * y ∧ x * y ≤ a * b := by
  have h : (x * y).natAbs ≤ a.natAbs * b.natAbs := by rw [Int.natAbs_mul]; exact Nat.mul_le_mul (by omega) (by omega)
  have e : (a.natAbs * b.natAbs : Nat) = (a * b).natAbs := (Int.natAbs_mul a b).symm
  have h0 : 0 ≤ a * b := Int.mul_nonneg (by omega) (by omega)
  omega
theorem pos_mul {x y : Int} (h1 : 1 ≤ x) (h2 : 1 ≤ y) : 1 ≤ x * y := by have := Int.mul_pos (show 0 < x by omega) (show 0 < y by omega); omega
/-- The lowest terms are not greater than what they are the lowest terms of. -/
theorem low_le {n g num : Int} (hg : 1 ≤ g) (h : num = n * g) : n.natAbs ≤ num.natAbs := by
  rw [h, Int.natAbs_mul]; exact Nat.le_mul_of_pos_right _ (by omega)
/-- All that the law of fields wants of two fractions. -/
theorem fields {p q r s : Int} (v1 : vfB p q = true) (v2 : vfB r s = true) (p1 : -300 ≤ p) (p2 : p ≤ 300) (q2 : q ≤ 300) (r1 : -300 ≤ r) (r2 : r ≤ 300) (s2 : s ≤ 300) :
    ∃ sn sd mn md un ud : Int, plR (p*s+r*q) (q*s) = (sn, sd, 0) ∧ vfB sn sd = true ∧ plR (sn*s-r*sd) (sd*s) = (p, q, 0) ∧
      plR (p*r) (q*s) = (mn, md, 0) ∧ vfB mn md = true ∧ (r ≠ 0 → plR (mn*s) (md*r) = (p, q, 0)) ∧
      plR (p+r) (q+s) = (un, ud, 0) ∧ vfB un ud = true ∧ cmpI (p*ud) (un*q) = cmpI (p*s) (r*q) ∧ cmpI (un*s) (r*ud) = cmpI (p*s) (r*q) ∧ (cmpI (p*s) (r*q) = 0 ↔ p = r ∧ q = s) := by
  obtain ⟨q1, _⟩ := vfB_iff.1 v1
  obtain ⟨s1, _⟩ := vfB_iff.1 v2
  have b1 := small_mul (x := p) (y := s) (a := 300) (b := 300) (by omega) (by omega) (by omega) (by omega)
  have b2 := small_mul (x := r) (y := q) (a := 300) (b := 300) (by omega) (by omega) (by omega) (by omega)
  have b3 := small_mul (x := q) (y := s) (a := 300) (b := 300) (by omega) (by omega) (by omega) (by omega)
  have b4 := small_mul (x := p) (y := r) (a := 300) (b := 300) (by omega) (by omega) (by omega) (by omega)
  have qs := pos_mul q1 s1
  obtain ⟨sn, sd, g1, e1, w1, n1, d1, gg1⟩ := plR_ex (num := p*s+r*q) (den := q*s) qs (by omega) (by omega) (by omega)
  obtain ⟨mn, md, g2, e2, w2, n2, d2, gg2⟩ := plR_ex (num := p*r) (den := q*s) qs (by omega) (by omega) (by omega)
  obtain ⟨un, ud, g3, e3, w3, n3, d3, gg3⟩ := plR_ex (num := p+r) (den := q+s) (by omega) (by omega) (by omega) (by omega)
  obtain ⟨sd1, _⟩ := vfB_iff.1 w1
  obtain ⟨md1, _⟩ := vfB_iff.1 w2
  have can : ∀ {a b g : Int}, 1 ≤ g → a * g = b * g → a = b := fun hg h => Int.eq_of_mul_eq_mul_right (by omega) h
  refine ⟨sn, sd, mn, md, un, ud, e1, w1, ?_, e2, w2, fun hr => ?_, e3, w3, ?_, ?_, ?_⟩
  · refine plR_cross v1 (by have := pos_mul sd1 s1; omega) (can gg1 ?_)
    have a1 : (sn * s - r * sd) * q * g1 = ((sn * g1) * s - r * (sd * g1)) * q := by grind
    have a2 : p * (sd * s) * g1 = p * ((sd * g1) * s) := by grind
    rw [a1, a2, ← n1, ← d1]
    grind
  · refine plR_cross v1 (fun h => ?_) (can gg2 ?_)
    · rcases Int.mul_eq_zero.1 h with h | h
      · omega
      · exact hr h
    · have a1 : mn * s * q * g2 = (mn * g2) * (q * s) := by grind
      have a2 : p * (md * r) * g2 = (p * r) * (md * g2) := by grind
      rw [a1, a2, ← n2, ← d2]
  · refine cmpI_scale gg3 ?_
    have a1 : (p * ud - un * q) * g3 = p * (ud * g3) - (un * g3) * q := by grind
    rw [a1, ← n3, ← d3]
    grind
  · refine cmpI_scale gg3 ?_
    have a1 : (un * s - r * ud) * g3 = (un * g3) * s - r * (ud * g3) := by grind
    rw [a1, ← n3, ← d3]
    grind
  · rw [cmpI_zero]
    constructor
    · intro h; exact low_uniq v1 v2 h
    · rintro ⟨rfl, rfl⟩; rfl
end Go.Proofs.YtlpglibnjmjjkaaGreatDoor
namespace Go.Proofs.YtlpglibnjmjjkaaGreatDoor
open Go.Lib
set_option linter.unusedVariables false

theorem sg_abs (l : Int) : sgI l * (l.natAbs : Int) = l := by
  unfold sgI
  split
  · omega
  · split <;> omega
theorem scv_exp : ∀ (f : Nat) (kd s a b : Int) (l : List (Int × Int)) (p q p0 q0 x y : Int), 1 ≤ b → expK f kd s a b = some l → vfB x y = true →
    x * (q * a + q0 * (s * b)) = y * (p * a + p0 * (s * b)) →
    ((scvR l p q p0 q0).2 = 0 ∨ (scvR l p q p0 q0).2 = 5 ∨ (scvR l p q p0 q0).2 = 6) ∧ ((scvR l p q p0 q0).2 = 0 → (scvR l p q p0 q0).1.getLast? = some (x, y))
  | 0, _, _, _, _, _, _, _, _, _, _, _, _, h, _, _ => by simp [expK] at h
  | f + 1, kd, s, a, b, l, p, q, p0, q0, x, y, hb, h, hv, hx => by
    rw [expK] at h
    generalize ht : trmK kd a b = t at h
    split at h
    · rename_i h0
      injection h with h
      subst h
      have ha : a = t * b := by omega
      have hc : (x * (t * q + s * q0)) * b = (y * (t * p + s * p0)) * b := by
        have e1 : (x * (t * q + s * q0)) * b = x * (q * a + q0 * (s * b)) := by rw [ha]; grind
        have e2 : (y * (t * p + s * p0)) * b = y * (p * a + p0 * (s * b)) := by rw [ha]; grind
        rw [e1, e2, hx]
      have hc2 : x * (t * q + s * q0) = y * (t * p + s * p0) := Int.eq_of_mul_eq_mul_right (by omega) hc
      simp only [scvR]
      by_cases hq : t * q + s * q0 = 0
      · rw [if_pos hq]; simp
      · rw [if_neg hq]
        split
        · simp
        · rw [plR_cross hv hq (by rw [Int.mul_comm]; exact hc2.symm)]
          simp
    · rename_i h0
      cases hc : expK f kd (sgI (a - t * b)) b ((a - t * b).natAbs : Int) with
      | none => rw [hc] at h; cases h
      | some m =>
        rw [hc] at h
        injection h with h
        subst h
        have hm := (expK_len f _ _ _ _ m hc).2
        have hih := scv_exp f kd (sgI (a - t * b)) b ((a - t * b).natAbs : Int) m (t * p + s * p0) (t * q + s * q0) p q x y (by omega) hc hv (by
          rw [sg_abs]
          have e1 : (t * q + s * q0) * b + q * (a - t * b) = q * a + q0 * (s * b) := by grind
          have e2 : (t * p + s * p0) * b + p * (a - t * b) = p * a + p0 * (s * b) := by grind
          rw [e1, e2, hx])
        obtain ⟨c1, c2⟩ := hih
        have hlen := (scvR_len m (t * p + s * p0) (t * q + s * q0) p q).1
        simp only [scvR]
        split
        · simp
        · split
          · simp
          · split
            · split
              · rename_i h3
                have hne : (scvR m (t * p + s * p0) (t * q + s * q0) p q).1 ≠ [] := fun e => by
                  have := hlen h3; rw [e] at this; simp at this; omega
                refine ⟨.inl rfl, fun _ => ?_⟩
                show List.getLast? (_ :: _) = _
                rw [List.getLast?_cons_of_ne_nil hne]
                exact c2 h3
              · rename_i h3
                exact ⟨c1, fun h => absurd h h3⟩
            · simp
theorem sameB_self (l : List (Int × Int)) : sameB l l = true := by
  unfold sameB
  simp
/-- All that the law of terms with signs wants of the terms of a kind. -/
theorem exs_back {x y kd : Int} (h : exsC x y kd = 0) :
    (vlsT (exsL x y kd)).2.2 = 5 ∨ (vlsT (exsL x y kd)).2.2 = 6 ∨ (vlsT (exsL x y kd) = (x, y, 0) ∧ kosC (exsL x y kd) kd = 0 ∧ kosB (exsL x y kd) kd = true) := by
  have hc : cdeK x y kd = 0 := by
    rcases Decidable.em (cdeK x y kd = 0) with h0 | h0
    · exact h0
    · rw [(exs_code h0).2] at h; exact absurd h h0
  obtain ⟨hv, hk, he⟩ := cde_in hc
  obtain ⟨e1, e2⟩ := exs_zero hc
  cases ho : exsO x y kd with
  | none => rw [e2, ho] at h; cases h
  | some l =>
    have hl : exsL x y kd = l := by rw [e1, ho]; rfl
    obtain ⟨hs, _⟩ := exsO_in ho
    have hx : expK 60 kd 1 x y = some l := by
      unfold exsO at ho
      cases hxx : expK 60 kd 1 x y with
      | none => rw [hxx] at ho; cases ho
      | some m =>
        rw [hxx] at ho
        simp only at ho
        split at ho
        · injection ho with ho; rw [ho]
        · cases ho
    obtain ⟨y1, _⟩ := vfB_iff.1 hv
    obtain ⟨c1, c2⟩ := scv_exp 60 kd 1 x y l 1 0 0 1 x y y1 hx hv (by grind)
    rw [hl]
    have hC : scfC l = (scvR l 1 0 0 1).2 := if_pos hs
    have hL : scfL l = (scvR l 1 0 0 1).1 := if_pos hs
    rcases c1 with c1 | c1 | c1
    · have hla : lastP (scfL l) = (x, y) := by
        have := c2 c1
        rw [← hL, List.getLast?_eq_getElem?] at this
        unfold lastP
        rw [List.getD_eq_getElem?_getD, this]; rfl
      have hC0 : scfC l = 0 := by rw [hC]; exact c1
      have hval : vlsT l = (x, y, 0) := by
        unfold vlsT
        rw [if_pos hC0, hla]
      refine .inr (.inr ⟨hval, ?_, ?_⟩)
      · unfold kosC; rw [if_pos hs, if_pos hk]
      · unfold kosB kosE
        rw [hs, hk, hval, hl, sameB_self]
        simp [hC0, h]
    · left; rw [vls_bad (by rw [hC, c1]; decide), hC]; exact c1
    · right; left; rw [vls_bad (by rw [hC, c1]; decide), hC]; exact c1
end Go.Proofs.YtlpglibnjmjjkaaGreatDoor
