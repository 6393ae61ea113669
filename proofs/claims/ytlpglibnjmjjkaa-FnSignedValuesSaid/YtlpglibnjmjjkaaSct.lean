/-
  The convergents of terms with signs: contracts of the program's and of the reference's functions; the walk of the law FnExactSignedConvergents.
  No condition but those of the law's own text.
-/
import Derived.Test.YtlpglibnjmjjkaaProg
import Derived.Test.YtlpglibnjmjjkaaMem
import Derived.Test.YtlpglibnjmjjkaaBasic
import Derived.Test.YtlpglibnjmjjkaaAllk
import Derived.Test.YtlpglibnjmjjkaaInts
import Derived.Test.YtlpglibnjmjjkaaSig
import Derived.Test.YtlpglibnjmjjkaaFrac
import Derived.Test.YtlpglibnjmjjkaaFrac2
import Derived.Test.YtlpglibnjmjjkaaFrac3
import Derived.Test.YtlpglibnjmjjkaaSgn
import Derived.Test.YtlpglibnjmjjkaaMarks
import Derived.Test.YtlpglibnjmjjkaaOwn
import Derived.Test.YtlpglibnjmjjkaaEqF
import Derived.Test.YtlpglibnjmjjkaaKnd
import Derived.IntWalk
import Derived.Handy
import Derived.BigQuiet
import Derived.Deep.QuietTactic
import Derived.Deep.AppendLies
namespace Go.Proofs.Ytlpglibnjmjjkaa
open Go.RowKit
set_option linter.unusedVariables false
set_option linter.unusedSimpArgs false
attribute [local go_sem ↓] Go.wp_at_zero Go.wp_at_succ

theorem plR_ok {a b : Int} (h : (plR a b).2.2 = 0) : vfB (plR a b).1 (plR a b).2.1 = true := by
  unfold plR at h ⊢
  split
  · rename_i hv; exact hv
  · rename_i hv; rw [if_neg hv] at h; cases h
theorem plR_code (a b : Int) : (plR a b).2.2 = 0 ∨ (plR a b).2.2 = 5 := by
  unfold plR
  split
  · exact .inl rfl
  · exact .inr rfl
/-- The convergents of terms with signs behind a state, and a code. -/
def scvR : List (Int × Int) → Int → Int → Int → Int → List (Int × Int) × Int
  | [], _, _, _, _ => ([], 0)
  | x :: r, p, q, p0, q0 =>
    if x.2 * q + x.1 * q0 = 0 then ([], 6)
    else if 1000000000 < (x.2 * p + x.1 * p0).natAbs ∨ 1000000000 < (x.2 * q + x.1 * q0).natAbs then ([], 5)
    else if (plR (x.2 * p + x.1 * p0) (x.2 * q + x.1 * q0)).2.2 = 0 then
      (if (scvR r (x.2 * p + x.1 * p0) (x.2 * q + x.1 * q0) p q).2 = 0 then
        (((plR (x.2 * p + x.1 * p0) (x.2 * q + x.1 * q0)).1, (plR (x.2 * p + x.1 * p0) (x.2 * q + x.1 * q0)).2.1) :: (scvR r (x.2 * p + x.1 * p0) (x.2 * q + x.1 * q0) p q).1, 0)
      else ([], (scvR r (x.2 * p + x.1 * p0) (x.2 * q + x.1 * q0) p q).2))
    else ([], 5)
theorem scvR_len : ∀ (zs : List (Int × Int)) (p q p0 q0 : Int), ((scvR zs p q p0 q0).2 = 0 → (scvR zs p q p0 q0).1.length = zs.length) ∧ ((scvR zs p q p0 q0).2 ≠ 0 → (scvR zs p q p0 q0).1 = []) ∧
    ∀ z ∈ (scvR zs p q p0 q0).1, vfB z.1 z.2 = true
  | [], p, q, p0, q0 => by simp [scvR]
  | x :: r, p, q, p0, q0 => by
    obtain ⟨h1, h2, h3⟩ := scvR_len r (x.2 * p + x.1 * p0) (x.2 * q + x.1 * q0) p q
    rw [scvR]
    split
    · simp
    · split
      · simp
      · split
        · rename_i hc
          split
          · rename_i h0
            refine ⟨fun _ => by simp [h1 h0], fun h => absurd rfl h, fun z hz => ?_⟩
            rw [List.mem_cons] at hz
            rcases hz with rfl | hz
            · exact plR_ok hc
            · exact h3 z hz
          · rename_i h0
            exact ⟨fun h => absurd h h0, fun _ => rfl, fun z hz => by cases hz⟩
        · simp
/-- So many of the convergents have been found. -/
def ScvAt (zs : List (Int × Int)) (k : Nat) (p q p0 q0 : Int) (fs : List (Int × Int)) : Prop :=
  scvR zs 1 0 0 1 = if (scvR (zs.drop k) p q p0 q0).2 = 0 then (fs ++ (scvR (zs.drop k) p q p0 q0).1, 0) else ([], (scvR (zs.drop k) p q p0 q0).2)
theorem ScvAt.start (zs : List (Int × Int)) : ScvAt zs 0 1 0 0 1 [] := by
  unfold ScvAt
  obtain ⟨h1, h2, _⟩ := scvR_len zs 1 0 0 1
  rw [List.drop_zero]
  split
  · rename_i h; exact Prod.ext (by simp) h
  · rename_i h; exact Prod.ext (h2 h) rfl
theorem drop_atP {zs : List (Int × Int)} {k : Nat} {z : Int × Int} (h : zs[k]? = some z) : zs.drop k = z :: zs.drop (k + 1) := by
  have hk : k < zs.length := by
    rcases Nat.lt_or_ge k zs.length with h' | h'
    · exact h'
    · rw [List.getElem?_eq_none h'] at h; cases h
  rw [List.drop_eq_getElem_cons hk]
  rw [List.getElem?_eq_getElem hk] at h
  injection h with h
  rw [h]
theorem ScvAt.zero {zs : List (Int × Int)} {k : Nat} {p q p0 q0 x y : Int} {fs : List (Int × Int)} (h : ScvAt zs k p q p0 q0 fs) (hz : zs[k]? = some (x, y)) (hq : y * q + x * q0 = 0) : scvR zs 1 0 0 1 = ([], 6) := by
  unfold ScvAt at h
  rw [h, drop_atP hz, scvR, if_pos hq]; rfl
theorem ScvAt.full {zs : List (Int × Int)} {k : Nat} {p q p0 q0 x y : Int} {fs : List (Int × Int)} (h : ScvAt zs k p q p0 q0 fs) (hz : zs[k]? = some (x, y)) (hq : y * q + x * q0 ≠ 0)
    (hf : (1000000000 < (y * p + x * p0).natAbs ∨ 1000000000 < (y * q + x * q0).natAbs) ∨ (plR (y * p + x * p0) (y * q + x * q0)).2.2 ≠ 0) : scvR zs 1 0 0 1 = ([], 5) := by
  unfold ScvAt at h
  rw [h, drop_atP hz, scvR, if_neg hq]
  by_cases ha : 1000000000 < (y * p + x * p0).natAbs ∨ 1000000000 < (y * q + x * q0).natAbs
  · rw [if_pos ha]; rfl
  · rw [if_neg ha]
    rcases hf with hf | hf
    · exact absurd hf ha
    · simp only [if_neg hf]; rfl
theorem ScvAt.step {zs : List (Int × Int)} {k : Nat} {p q p0 q0 x y : Int} {fs : List (Int × Int)} (h : ScvAt zs k p q p0 q0 fs) (hz : zs[k]? = some (x, y)) (hq : y * q + x * q0 ≠ 0)
    (ha : ¬ (1000000000 < (y * p + x * p0).natAbs ∨ 1000000000 < (y * q + x * q0).natAbs)) (hc : (plR (y * p + x * p0) (y * q + x * q0)).2.2 = 0) :
    ScvAt zs (k + 1) (y * p + x * p0) (y * q + x * q0) p q (fs ++ [((plR (y * p + x * p0) (y * q + x * q0)).1, (plR (y * p + x * p0) (y * q + x * q0)).2.1)]) := by
  unfold ScvAt at *
  rw [h, drop_atP hz, scvR, if_neg hq, if_neg ha]
  simp only [if_pos hc]
  by_cases h0 : (scvR (zs.drop (k + 1)) (y * p + x * p0) (y * q + x * q0) p q).2 = 0
  · simp only [if_pos h0]; simp
  · simp only [if_neg h0]
theorem ScvAt.done {zs : List (Int × Int)} {k : Nat} {p q p0 q0 : Int} {fs : List (Int × Int)} (h : ScvAt zs k p q p0 q0 fs) (hk : zs.length ≤ k) : scvR zs 1 0 0 1 = (fs, 0) := by
  unfold ScvAt at h
  rw [h, List.drop_of_length_le hk]; simp [scvR]
theorem sg_bd {x p : Int} (hx : x = 1 ∨ x = -1) (h1 : -1000000000 ≤ p) (h2 : p ≤ 1000000000) : -1000000000 ≤ x * p ∧ x * p ≤ 1000000000 := by
  rcases hx with rfl | rfl <;> omega

/-- The convergents of terms with signs, and a code. -/
def scfL (zs : List (Int × Int)) : List (Int × Int) := if sgnB zs = true then (scvR zs 1 0 0 1).1 else []
def scfC (zs : List (Int × Int)) : Int := if sgnB zs = true then (scvR zs 1 0 0 1).2 else 1
theorem scfL_len (zs : List (Int × Int)) : (scfL zs).length ≤ zs.length := by
  unfold scfL
  split
  · obtain ⟨h1, h2, _⟩ := scvR_len zs 1 0 0 1
    by_cases h : (scvR zs 1 0 0 1).2 = 0
    · rw [h1 h]; exact Nat.le_refl _
    · rw [h2 h]; simp
  · simp
theorem scfL_rng (zs : List (Int × Int)) : ∀ z ∈ scfL zs, Rng z.1 ∧ Rng z.2 := by
  intro z hz
  unfold scfL at hz
  split at hz
  · have := vfB_iff.1 ((scvR_len zs 1 0 0 1).2.2 z hz)
    unfold Rng; omega
  · cases hz

set_option maxRecDepth 100000 in
set_option maxHeartbeats 6400000 in
theorem implScf_any (A : Option Addr) (n cap : Nat) (zs : List (Int × Int)) (w : World) (h : PRow w A n zs) (hcap : n ≤ cap) :
    Calls Try.prog 6 #[.slice A n cap] w fun e w' => ResF w.heap.size (scfL zs) (scfC zs) e w' ∧ Below w.heap.size w w' := by
  have HV := Lib.hid (validSigned_any A n cap zs w h hcap)
  cases hv : sgnB zs
  · rw [show scfL zs = [] from if_neg (by simp [hv]), show scfC zs = 1 from if_neg (by simp [hv])]
    rw [hv] at HV
    go_enter Try.func6, Try.ntmps6
    go_wp2_with fail
    refine HV.out.mono ?_
    rintro e w1 ⟨rfl, hb1⟩
    go_wp2_with fail
    go_ret2
    exact ⟨⟨none, 0, rfl, World.ownsRow_nil ..⟩, hb1⟩
  · rw [show scfL zs = (scvR zs 1 0 0 1).1 from if_pos hv, show scfC zs = (scvR zs 1 0 0 1).2 from if_pos hv]
    rw [hv] at HV
    obtain ⟨n1, n2, hin⟩ := sgn_in hv
    rw [h.len] at n1 n2
    obtain ⟨R, hR⟩ : ∃ R, R = scvR zs 1 0 0 1 := ⟨_, rfl⟩
    rw [← hR]
    have HR := Lib.hid hR
    obtain ⟨i0, hi, hz0, hz1, hz2⟩ := info_parts infoF
    have HL := Lib.hid h.len
    have HIn := Lib.hid hin
    have hw := Lib.hid h
    clear h hin hR hv
    go_enter Try.func6, Try.ntmps6
    go_wp2_with fail
    refine HV.out.mono ?_
    rintro e w1 ⟨rfl, hb1⟩
    go_wp2_with fail
    go_loopw [4, 5, 6, 7, 8, 18] (fun o a b c d i wr => ∃ (k : Nat) (p q p0 q0 : Int) (B : Option Addr) (cc : Nat) (fs : List (Int × Int)), k ≤ n ∧ i = .int .i64 k ∧ a = .int .i64 p ∧ b = .int .i64 q ∧ c = .int .i64 p0 ∧ d = .int .i64 q0 ∧ o = .slice B k cc ∧
      -1000000000 ≤ p ∧ p ≤ 1000000000 ∧ -1000000000 ≤ q ∧ q ≤ 1000000000 ∧ -1000000000 ≤ p0 ∧ p0 ≤ 1000000000 ∧ -1000000000 ≤ q0 ∧ q0 ≤ 1000000000 ∧
      wr.ownsRow w.heap.size 30 2 (.slice B k cc) k (prs fs) ∧ Hid (ScvAt zs k p q p0 q0 fs) ∧ Below w.heap.size w wr) (fun _ _ _ _ _ i _ => n - (intOf i).toNat)
    case atStart => exact ⟨0, 1, 0, 0, 1, none, 0, [], Nat.zero_le _, rfl, rfl, rfl, rfl, rfl, rfl, by omega, by omega, by omega, by omega, by omega, by omega, by omega, by omega, World.ownsRow_nil .., ScvAt.start zs, hb1⟩
    case round =>
      obtain ⟨k, p, q, p0, q0, B, cc, fs, hk, rfl, rfl, rfl, rfl, rfl, rfl, p1, p2, q1, q2, p3, p4, q3, q4, hown, HC, hB⟩ := hrel
      have HO := Lib.hid hown
      have HF := Lib.hid hown.lt
      have hbase : w.heap.size ≤ wr.heap.size := hB.size
      clear hown hb1
      by_cases hlt : k < n
      · obtain ⟨bb, o, x, y, rfl, hz, _, _, _, _, hc1, hc2⟩ := (hw.out.below hB).at_ hlt
        obtain ⟨hx, y1, y2⟩ := HIn.out _ (List.mem_of_getElem? hz)
        simp only at hx y1 y2
        obtain ⟨m1, m2⟩ := mul_bd y1 y2 p1 p2
        obtain ⟨m3, m4⟩ := mul_bd y1 y2 q1 q2
        obtain ⟨m5, m6⟩ := sg_bd hx p3 p4
        obtain ⟨m7, m8⟩ := sg_bd hx q3 q4
        obtain ⟨P, hP⟩ : ∃ P, P = y * p + x * p0 := ⟨_, rfl⟩
        obtain ⟨Q, hQ⟩ : ∃ Q, Q = y * q + x * q0 := ⟨_, rfl⟩
        have bP1 : -2000000000000000000 ≤ P := by omega
        have bP2 : P ≤ 2000000000000000000 := by omega
        have bQ1 : -2000000000000000000 ≤ Q := by omega
        have bQ2 : Q ≤ 2000000000000000000 := by omega
        have HZ := Lib.hid hz
        have k1 : IntKind.i64.wrap (y * p) = y * p := IntWalk.i64_in _ (by omega)
        have k2 : IntKind.i64.wrap (x * p0) = x * p0 := IntWalk.i64_in _ (by omega)
        have k3 : IntKind.i64.wrap (y * q) = y * q := IntWalk.i64_in _ (by omega)
        have k4 : IntKind.i64.wrap (x * q0) = x * q0 := IntWalk.i64_in _ (by omega)
        have k5 : IntKind.i64.wrap (y * p + x * p0) = P := by rw [hP]; exact IntWalk.i64_in _ (by omega)
        have k6 : IntKind.i64.wrap (y * q + x * q0) = Q := by rw [hQ]; exact IntWalk.i64_in _ (by omega)
        have HP := Lib.hid hP
        have HQ := Lib.hid hQ
        clear hz hP hQ hx
        rcases (by omega : Q = 0 ∨ (Q ≠ 0 ∧ 1000000000 < (P.natAbs : Int)) ∨ (Q ≠ 0 ∧ (P.natAbs : Int) ≤ 1000000000 ∧ 1000000000 < (Q.natAbs : Int)) ∨ (Q ≠ 0 ∧ (P.natAbs : Int) ≤ 1000000000 ∧ (Q.natAbs : Int) ≤ 1000000000)) with h0 | ⟨h0, ha⟩ | ⟨h0, ha, hb⟩ | ⟨h0, ha, hb⟩
        · have e0 : (Q == 0) = true := by rw [beq_iff_eq]; exact h0
          have H0 := Lib.hid h0
          clear h0
          go_wp2_with fail
          go_quiet (fail)
          clear k1 k2 k3 k4 k5 k6
          have hbW : Below w.heap.size w ((wr.alloc (.cells #[.int .i64 x, .int .i64 y] 51)).drewN nq) := (hB.alloc hbase _).trans (below_drewN _ _ _)
          have HOW := Lib.hid (own_below (HO.out.alloc (.cells #[.int .i64 x, .int .i64 y] 51)) (below_drewN _ (wr.alloc (.cells #[.int .i64 x, .int .i64 y] 51)) nq))
          generalize (wr.alloc (.cells #[.int .i64 x, .int .i64 y] 51)).drewN nq = W at hbW HOW ⊢
          have hbaseW := hbW.size
          clear hc1 hc2 HO hB
          go_wp2_with fail
          go_ret2
          have he := HR.out.trans (HC.out.zero HZ.out (by rw [← HQ.out]; exact H0.out))
          subst he
          exact ⟨⟨none, 0, rfl, World.ownsRow_nil ..⟩, hbW⟩
        · have e0 : (Q == 0) = false := by rw [beq_eq_false_iff_ne]; exact h0
          have HFu := Lib.hid (HR.out.trans (HC.out.full HZ.out (by rw [← HQ.out]; exact h0) (.inl (.inl (by rw [← HP.out]; omega)))))
          clear h0
          go_wp2_with fail
          go_quiet (fail)
          clear k1 k2 k3 k4 k5 k6
          have hbW : Below w.heap.size w ((wr.alloc (.cells #[.int .i64 x, .int .i64 y] 51)).drewN nq) := (hB.alloc hbase _).trans (below_drewN _ _ _)
          have HOW := Lib.hid (own_below (HO.out.alloc (.cells #[.int .i64 x, .int .i64 y] 51)) (below_drewN _ (wr.alloc (.cells #[.int .i64 x, .int .i64 y] 51)) nq))
          generalize (wr.alloc (.cells #[.int .i64 x, .int .i64 y] 51)).drewN nq = W at hbW HOW ⊢
          have hbaseW := hbW.size
          clear hc1 hc2 HO hB
          go_wp2_with fail
          refine (abs_any P _ (by omega) (by omega)).mono ?_
          rintro e w' ⟨rfl, rfl⟩
          go_wp2_with fail
          go_ret2
          have he := HFu.out
          subst he
          exact ⟨⟨none, 0, rfl, World.ownsRow_nil ..⟩, hbW⟩
        · have e0 : (Q == 0) = false := by rw [beq_eq_false_iff_ne]; exact h0
          have HFu := Lib.hid (HR.out.trans (HC.out.full HZ.out (by rw [← HQ.out]; exact h0) (.inl (.inr (by rw [← HQ.out]; omega)))))
          have ha2 : decide ((1000000000 : Int) < (P.natAbs : Int)) = false := decide_eq_false (by omega)
          clear h0
          go_wp2_with fail
          go_quiet (fail)
          clear k1 k2 k3 k4 k5 k6
          have hbW : Below w.heap.size w ((wr.alloc (.cells #[.int .i64 x, .int .i64 y] 51)).drewN nq) := (hB.alloc hbase _).trans (below_drewN _ _ _)
          have HOW := Lib.hid (own_below (HO.out.alloc (.cells #[.int .i64 x, .int .i64 y] 51)) (below_drewN _ (wr.alloc (.cells #[.int .i64 x, .int .i64 y] 51)) nq))
          generalize (wr.alloc (.cells #[.int .i64 x, .int .i64 y] 51)).drewN nq = W at hbW HOW ⊢
          have hbaseW := hbW.size
          clear hc1 hc2 HO hB
          go_wp2_with fail
          refine (abs_any P _ (by omega) (by omega)).mono ?_
          rintro e w' ⟨rfl, rfl⟩
          go_wp2_with fail
          refine (abs_any Q _ (by omega) (by omega)).mono ?_
          rintro e w' ⟨rfl, rfl⟩
          go_wp2_with fail
          go_ret2
          have he := HFu.out
          subst he
          exact ⟨⟨none, 0, rfl, World.ownsRow_nil ..⟩, hbW⟩
        · have e0 : (Q == 0) = false := by rw [beq_eq_false_iff_ne]; exact h0
          have ha2 : decide ((1000000000 : Int) < (P.natAbs : Int)) = false := decide_eq_false (by omega)
          have hb2 : decide ((1000000000 : Int) < (Q.natAbs : Int)) = false := decide_eq_false (by omega)
          have HPl := Lib.hid (fun w => plainOf_any P Q w (by omega) (by omega) (by omega) (by omega) (by omega))
          have hna : ¬ (1000000000 < (y * p + x * p0).natAbs ∨ 1000000000 < (y * q + x * q0).natAbs) := by rw [← HP.out, ← HQ.out]; omega
          have hst := fun hc => HC.out.step HZ.out (by rw [← HQ.out]; exact h0) hna hc
          have hfu := fun hc => HR.out.trans (HC.out.full HZ.out (by rw [← HQ.out]; exact h0) (.inr hc))
          rw [← HP.out, ← HQ.out] at hst hfu
          rcases plR_code P Q with hc | hc
          · have hst := hst hc
            rw [hc] at HPl
            generalize (plR P Q).1 = X at *
            generalize (plR P Q).2.1 = Y at *
            have HSt := Lib.hid hst
            clear h0 hfu hst hna hc
            go_wp2_with fail
            go_quiet (fail)
            clear k1 k2 k3 k4 k5 k6
            have hbW : Below w.heap.size w ((wr.alloc (.cells #[.int .i64 x, .int .i64 y] 51)).drewN nq) := (hB.alloc hbase _).trans (below_drewN _ _ _)
            have HOW := Lib.hid (own_below (HO.out.alloc (.cells #[.int .i64 x, .int .i64 y] 51)) (below_drewN _ (wr.alloc (.cells #[.int .i64 x, .int .i64 y] 51)) nq))
            generalize (wr.alloc (.cells #[.int .i64 x, .int .i64 y] 51)).drewN nq = W at hbW HOW ⊢
            have hbaseW := hbW.size
            clear hc1 hc2 HO hB
            go_wp2_with fail
            refine (abs_any P _ (by omega) (by omega)).mono ?_
            rintro e w' ⟨rfl, rfl⟩
            go_wp2_with fail
            refine (abs_any Q _ (by omega) (by omega)).mono ?_
            rintro e w' ⟨rfl, rfl⟩
            go_wp2_with fail
            refine (HPl.out _).mono ?_
            rintro e wv ⟨rfl, hbv⟩
            have hbV : Below w.heap.size w wv := hbW.trans (hbv.mono hbaseW)
            have hbaseV : w.heap.size ≤ wv.heap.size := hbV.size
            have HOV := Lib.hid (own_below HOW.out hbv)
            clear hbv hbW HOW
            go_wp2_with (first | (at_builtin; refine wpList_append_lies _ rfl (.tmp 63) (.tmp 65) 26 rfl w.heap.size 30 i0 (.agg #[.int .i64 0, .int .i64 0]) 2 16 Try.underlying26 hi hz0 hz1 hz2 rfl (by decide) _ k (prs fs) (by rfl) ((HOV.out.alloc _).alloc _) ⟨(wv.heap.size + 1), 0, none⟩ 1 1 [.int .i64 X, .int .i64 Y] (by rfl) rfl ?cells (by simp [Value.oneCell']) (by decide) (by show k + 1 ≤ 9223372036854775807; omega) (by omega) (by simp; omega) ((wv.heap.size + 1) + 1) (by simp) ?_; rotate_left; intro g cap1 wn hown1 hgrow hat hlt1))
            case cells => exact fun j u hu => newcell (by simp) hu
            go_roundw
            case rel =>
              exact ⟨k + 1, P, Q, p, q, _, _, fs ++ [(X, Y)], by omega, by go_num, rfl, rfl, rfl, rfl, rfl, by omega, by omega, by omega, by omega, p1, p2, q1, q2, by rw [prs_append]; exact hown1, HSt.out, ((hbV.alloc hbaseV _).alloc (by simp; omega) _).grown hgrow (by simp; omega) (fun k hk => (HF.out k hk).1)⟩
            case measure => simp [intOf]; omega
          · have hfu := hfu (by rw [hc]; decide)
            rw [hc] at HPl
            generalize (plR P Q).1 = X at *
            generalize (plR P Q).2.1 = Y at *
            have HFu := Lib.hid hfu
            clear h0 hfu hst hna hc
            go_wp2_with fail
            go_quiet (fail)
            clear k1 k2 k3 k4 k5 k6
            have hbW : Below w.heap.size w ((wr.alloc (.cells #[.int .i64 x, .int .i64 y] 51)).drewN nq) := (hB.alloc hbase _).trans (below_drewN _ _ _)
            have HOW := Lib.hid (own_below (HO.out.alloc (.cells #[.int .i64 x, .int .i64 y] 51)) (below_drewN _ (wr.alloc (.cells #[.int .i64 x, .int .i64 y] 51)) nq))
            generalize (wr.alloc (.cells #[.int .i64 x, .int .i64 y] 51)).drewN nq = W at hbW HOW ⊢
            have hbaseW := hbW.size
            clear hc1 hc2 HO hB
            go_wp2_with fail
            refine (abs_any P _ (by omega) (by omega)).mono ?_
            rintro e w' ⟨rfl, rfl⟩
            go_wp2_with fail
            refine (abs_any Q _ (by omega) (by omega)).mono ?_
            rintro e w' ⟨rfl, rfl⟩
            go_wp2_with fail
            refine (HPl.out _).mono ?_
            rintro e wv ⟨rfl, hbv⟩
            have hbV : Below w.heap.size w wv := hbW.trans (hbv.mono hbaseW)
            have hbaseV : w.heap.size ≤ wv.heap.size := hbV.size
            clear hbv hbW HOW
            go_wp2_with fail
            go_ret2
            have he := HFu.out
            subst he
            exact ⟨⟨none, 0, rfl, World.ownsRow_nil ..⟩, hbV.alloc hbaseV _⟩
      · obtain rfl : n = k := by omega
        go_wp2_with fail
        go_ret2
        have he := HR.out.trans (HC.out.done (by rw [HL.out]; exact Nat.le_refl _))
        have hl := own_lenP HO.out
        subst he
        subst hl
        exact ⟨⟨B, cc, rfl, HO.out⟩, hB⟩
set_option maxRecDepth 100000 in
set_option maxHeartbeats 6400000 in
theorem l04Convergents_any (A : Option Addr) (n cap : Nat) (zs : List (Int × Int)) (w : World) (h : PRow w A n zs) (hv : sgnB zs = true) :
    Calls Try.prog 28 #[.slice A n cap] w fun e w' => ResF w.heap.size (scvR zs 1 0 0 1).1 (scvR zs 1 0 0 1).2 e w' ∧ Below w.heap.size w w' := by
  obtain ⟨n1, n2, hin⟩ := sgn_in hv
  rw [h.len] at n1 n2
  obtain ⟨R, hR⟩ : ∃ R, R = scvR zs 1 0 0 1 := ⟨_, rfl⟩
  rw [← hR]
  have HR := Lib.hid hR
  obtain ⟨i0, hi, hz0, hz1, hz2⟩ := info_parts infoF
  have HL := Lib.hid h.len
  have HIn := Lib.hid hin
  have hw := Lib.hid h
  have hown0 : (w.alloc (.cells #[] 30)).ownsRow w.heap.size 30 2 (.slice (some ⟨w.heap.size, 0, none⟩) 0 0) 0 (prs []) := World.ownsRow_made w #[] 0 (Nat.le_refl _) (by decide) rfl
  have HO := Lib.hid hown0
  clear h hin hR hv hown0
  go_enter Try.func28, Try.ntmps28
  go_wp2_with fail
  go_loopw [4, 5, 6, 7, 8, 9] (fun o a b c d i wr => ∃ (k : Nat) (p q p0 q0 : Int) (B : Option Addr) (cc : Nat) (fs : List (Int × Int)), k ≤ n ∧ i = .int .i64 k ∧ a = .int .i64 p ∧ b = .int .i64 q ∧ c = .int .i64 p0 ∧ d = .int .i64 q0 ∧ o = .slice B k cc ∧
    -1000000000 ≤ p ∧ p ≤ 1000000000 ∧ -1000000000 ≤ q ∧ q ≤ 1000000000 ∧ -1000000000 ≤ p0 ∧ p0 ≤ 1000000000 ∧ -1000000000 ≤ q0 ∧ q0 ≤ 1000000000 ∧
    wr.ownsRow w.heap.size 30 2 (.slice B k cc) k (prs fs) ∧ Hid (ScvAt zs k p q p0 q0 fs) ∧ Below w.heap.size w wr) (fun _ _ _ _ _ i _ => n - (intOf i).toNat)
  case atStart => exact ⟨0, 1, 0, 0, 1, _, 0, [], Nat.zero_le _, rfl, rfl, rfl, rfl, rfl, rfl, by omega, by omega, by omega, by omega, by omega, by omega, by omega, by omega, HO.out, ScvAt.start zs, (Below.refl _ _).alloc (Nat.le_refl _) _⟩
  case round =>
    obtain ⟨k, p, q, p0, q0, B, cc, fs, hk, rfl, rfl, rfl, rfl, rfl, rfl, p1, p2, q1, q2, p3, p4, q3, q4, hown, HC, hB⟩ := hrel
    clear HO
    have HO := Lib.hid hown
    have HF := Lib.hid hown.lt
    have hbase : w.heap.size ≤ wr.heap.size := hB.size
    clear hown
    by_cases hlt : k < n
    · obtain ⟨bb, o, x, y, rfl, hz, _, _, _, _, hc1, hc2⟩ := (hw.out.below hB).at_ hlt
      obtain ⟨hx, y1, y2⟩ := HIn.out _ (List.mem_of_getElem? hz)
      simp only at hx y1 y2
      obtain ⟨m1, m2⟩ := mul_bd y1 y2 p1 p2
      obtain ⟨m3, m4⟩ := mul_bd y1 y2 q1 q2
      obtain ⟨m5, m6⟩ := sg_bd hx p3 p4
      obtain ⟨m7, m8⟩ := sg_bd hx q3 q4
      obtain ⟨P, hP⟩ : ∃ P, P = y * p + x * p0 := ⟨_, rfl⟩
      obtain ⟨Q, hQ⟩ : ∃ Q, Q = y * q + x * q0 := ⟨_, rfl⟩
      have bP1 : -2000000000000000000 ≤ P := by omega
      have bP2 : P ≤ 2000000000000000000 := by omega
      have bQ1 : -2000000000000000000 ≤ Q := by omega
      have bQ2 : Q ≤ 2000000000000000000 := by omega
      have HZ := Lib.hid hz
      have hk0 : (0 : Int) ≤ (k : Int) := by omega
      have hk1 : (k : Int) < (n : Int) := by omega
      have k1 : IntKind.i64.wrap (y * p) = y * p := IntWalk.i64_in _ (by omega)
      have k2 : IntKind.i64.wrap (x * p0) = x * p0 := IntWalk.i64_in _ (by omega)
      have k3 : IntKind.i64.wrap (y * q) = y * q := IntWalk.i64_in _ (by omega)
      have k4 : IntKind.i64.wrap (x * q0) = x * q0 := IntWalk.i64_in _ (by omega)
      have k5 : IntKind.i64.wrap (y * p + x * p0) = P := by rw [hP]; exact IntWalk.i64_in _ (by omega)
      have k6 : IntKind.i64.wrap (y * q + x * q0) = Q := by rw [hQ]; exact IntWalk.i64_in _ (by omega)
      have HP := Lib.hid hP
      have HQ := Lib.hid hQ
      clear hz hP hQ hx
      by_cases h0 : Q = 0
      · have e0 : (Q == 0) = true := by rw [beq_iff_eq]; exact h0
        have H0 := Lib.hid h0
        clear h0
        go_wp2_with fail
        go_quiet (fail)
        go_wp2_with fail
        go_quiet (fail)
        clear k1 k2 k3 k4 k5 k6
        rename Nat => nq1
        have hbW : Below w.heap.size w (wr.drewN (nq + nq1)) := hB.trans (below_drewN _ _ _)
        have HOW := Lib.hid (own_below HO.out (below_drewN _ wr (nq + nq1)))
        have hbaseW := hbW.size
        clear hc1 hc2 HO hB
        go_wp2_with fail
        go_ret2
        have he := HR.out.trans (HC.out.zero HZ.out (by rw [← HQ.out]; exact H0.out))
        subst he
        exact ⟨⟨none, 0, rfl, World.ownsRow_nil ..⟩, hbW⟩
      · have e0 : (Q == 0) = false := by rw [beq_eq_false_iff_ne]; exact h0
        have HPl := Lib.hid (fun w => l02Full_any P Q w (by omega) (by omega) (by omega) (by omega) (by omega))
        have hst := HC.out.step HZ.out (by rw [← HQ.out]; exact h0)
        have hfu := fun hc => HR.out.trans (HC.out.full HZ.out (by rw [← HQ.out]; exact h0) hc)
        rw [← HP.out, ← HQ.out] at hst hfu
        rcases plR_code P Q with hc | hc
        · rw [hc] at HPl
          have hst := fun a => hst a hc
          have hfu := fun a => hfu (.inl a)
          generalize (plR P Q).1 = X at *
          generalize (plR P Q).2.1 = Y at *
          by_cases hb : 1000000000 < (Q.natAbs : Int)
          · have HFu := Lib.hid (hfu (.inr (by omega)))
            clear h0 hfu hst hc
            go_wp2_with fail
            go_quiet (fail)
            go_wp2_with fail
            go_quiet (fail)
            clear k1 k2 k3 k4 k5 k6
            rename Nat => nq1
            have hbW : Below w.heap.size w (wr.drewN (nq + nq1)) := hB.trans (below_drewN _ _ _)
            have HOW := Lib.hid (own_below HO.out (below_drewN _ wr (nq + nq1)))
            have hbaseW := hbW.size
            clear hc1 hc2 HO hB
            go_wp2_with fail
            refine (HPl.out _).mono ?_
            rintro e wv ⟨rfl, hbv⟩
            have hbV : Below w.heap.size w wv := hbW.trans (hbv.mono hbaseW)
            have hbaseV : w.heap.size ≤ wv.heap.size := hbV.size
            have HOV := Lib.hid (own_below HOW.out hbv)
            clear hbv hbW HOW
            go_wp2_with fail
            refine (l02Size_any Q _ (by omega) (by omega)).mono ?_
            rintro e w' ⟨rfl, rfl⟩
            go_wp2_with fail
            go_ret2
            have he := HFu.out
            subst he
            exact ⟨⟨none, 0, rfl, World.ownsRow_nil ..⟩, hbV.alloc hbaseV _⟩
          · have hb2 : decide ((1000000000 : Int) < (Q.natAbs : Int)) = false := decide_eq_false hb
            by_cases ha : 1000000000 < (P.natAbs : Int)
            · have HFu := Lib.hid (hfu (.inl (by omega)))
              clear h0 hfu hst hc
              go_wp2_with fail
              go_quiet (fail)
              go_wp2_with fail
              go_quiet (fail)
              clear k1 k2 k3 k4 k5 k6
              rename Nat => nq1
              have hbW : Below w.heap.size w (wr.drewN (nq + nq1)) := hB.trans (below_drewN _ _ _)
              have HOW := Lib.hid (own_below HO.out (below_drewN _ wr (nq + nq1)))
              have hbaseW := hbW.size
              clear hc1 hc2 HO hB
              go_wp2_with fail
              refine (HPl.out _).mono ?_
              rintro e wv ⟨rfl, hbv⟩
              have hbV : Below w.heap.size w wv := hbW.trans (hbv.mono hbaseW)
              have hbaseV : w.heap.size ≤ wv.heap.size := hbV.size
              have HOV := Lib.hid (own_below HOW.out hbv)
              clear hbv hbW HOW
              go_wp2_with fail
              refine (l02Size_any Q _ (by omega) (by omega)).mono ?_
              rintro e w' ⟨rfl, rfl⟩
              go_wp2_with fail
              refine (l02Size_any P _ (by omega) (by omega)).mono ?_
              rintro e w' ⟨rfl, rfl⟩
              go_wp2_with fail
              go_ret2
              have he := HFu.out
              subst he
              exact ⟨⟨none, 0, rfl, World.ownsRow_nil ..⟩, hbV.alloc hbaseV _⟩
            · have ha2 : decide ((1000000000 : Int) < (P.natAbs : Int)) = false := decide_eq_false ha
              have HSt := Lib.hid (hst (by omega))
              have ha3 : (P.natAbs : Int) ≤ 1000000000 := by omega
              have hb3 : (Q.natAbs : Int) ≤ 1000000000 := by omega
              clear h0 hfu hst hc ha hb
              go_wp2_with fail
              go_quiet (fail)
              go_wp2_with fail
              go_quiet (fail)
              clear k1 k2 k3 k4 k5 k6
              rename Nat => nq1
              have hbW : Below w.heap.size w (wr.drewN (nq + nq1)) := hB.trans (below_drewN _ _ _)
              have HOW := Lib.hid (own_below HO.out (below_drewN _ wr (nq + nq1)))
              have hbaseW := hbW.size
              clear hc1 hc2 HO hB
              go_wp2_with fail
              refine (HPl.out _).mono ?_
              rintro e wv ⟨rfl, hbv⟩
              have hbV : Below w.heap.size w wv := hbW.trans (hbv.mono hbaseW)
              have hbaseV : w.heap.size ≤ wv.heap.size := hbV.size
              have HOV := Lib.hid (own_below HOW.out hbv)
              clear hbv hbW HOW
              go_wp2_with fail
              refine (l02Size_any Q _ (by omega) (by omega)).mono ?_
              rintro e w' ⟨rfl, rfl⟩
              go_wp2_with fail
              refine (l02Size_any P _ (by omega) (by omega)).mono ?_
              rintro e w' ⟨rfl, rfl⟩
              go_wp2_with (first | (at_builtin; refine wpList_append_lies _ rfl (.tmp 75) (.tmp 77) 26 rfl w.heap.size 30 i0 (.agg #[.int .i64 0, .int .i64 0]) 2 16 Try.underlying26 hi hz0 hz1 hz2 rfl (by decide) _ k (prs fs) (by rfl) ((HOV.out.alloc _).alloc _) ⟨(wv.heap.size + 1), 0, none⟩ 1 1 [.int .i64 X, .int .i64 Y] (by rfl) rfl ?cells (by simp [Value.oneCell']) (by decide) (by show k + 1 ≤ 9223372036854775807; omega) (by omega) (by simp; omega) ((wv.heap.size + 1) + 1) (by simp) ?_; rotate_left; intro g cap1 wn hown1 hgrow hat hlt1))
              case cells => exact fun j u hu => newcell (by simp) hu
              go_roundw
              case rel =>
                exact ⟨k + 1, P, Q, p, q, _, _, fs ++ [(X, Y)], by omega, by go_num, rfl, rfl, rfl, rfl, rfl, by omega, by omega, by omega, by omega, p1, p2, q1, q2, by rw [prs_append]; exact hown1, HSt.out, ((hbV.alloc hbaseV _).alloc (by simp; omega) _).grown hgrow (by simp; omega) (fun k hk => (HF.out k hk).1)⟩
              case measure => simp [intOf]; omega
        · have HFu := Lib.hid (hfu (.inr (by rw [hc]; decide)))
          rw [hc] at HPl
          generalize (plR P Q).1 = X at *
          generalize (plR P Q).2.1 = Y at *
          clear h0 hfu hst hc
          go_wp2_with fail
          go_quiet (fail)
          go_wp2_with fail
          go_quiet (fail)
          clear k1 k2 k3 k4 k5 k6
          rename Nat => nq1
          have hbW : Below w.heap.size w (wr.drewN (nq + nq1)) := hB.trans (below_drewN _ _ _)
          have HOW := Lib.hid (own_below HO.out (below_drewN _ wr (nq + nq1)))
          have hbaseW := hbW.size
          clear hc1 hc2 HO hB
          go_wp2_with fail
          refine (HPl.out _).mono ?_
          rintro e wv ⟨rfl, hbv⟩
          have hbV : Below w.heap.size w wv := hbW.trans (hbv.mono hbaseW)
          have hbaseV : w.heap.size ≤ wv.heap.size := hbV.size
          have HOV := Lib.hid (own_below HOW.out hbv)
          clear hbv hbW HOW
          go_wp2_with fail
          go_ret2
          have he := HFu.out
          subst he
          exact ⟨⟨none, 0, rfl, World.ownsRow_nil ..⟩, hbV.alloc hbaseV _⟩
    · obtain rfl : n = k := by omega
      go_wp2_with fail
      go_ret2
      have he := HR.out.trans (HC.out.done (by rw [HL.out]; exact Nat.le_refl _))
      have hl := own_lenP HO.out
      subst he
      subst hl
      exact ⟨⟨B, cc, rfl, HO.out⟩, hB⟩
theorem specScf_any (A : Option Addr) (n cap : Nat) (zs : List (Int × Int)) (w : World) (h : PRow w A n zs) (hcap : n ≤ cap) :
    Calls Try.prog 7 #[.slice A n cap] w fun e w' => ResF w.heap.size (scfL zs) (scfC zs) e w' ∧ Below w.heap.size w w' := by
  have HV := Lib.hid (l04Ok_any A n cap zs w h)
  cases hv : sgnB zs
  · rw [show scfL zs = [] from if_neg (by simp [hv]), show scfC zs = 1 from if_neg (by simp [hv])]
    rw [hv] at HV
    go_enter Try.func7, Try.ntmps7
    go_wp2_with fail
    refine HV.out.mono ?_
    rintro e w' ⟨rfl, rfl⟩
    go_wp2_with fail
    go_ret2
    exact ⟨⟨none, 0, rfl, World.ownsRow_nil ..⟩, Below.refl _ _⟩
  · rw [show scfL zs = (scvR zs 1 0 0 1).1 from if_pos hv, show scfC zs = (scvR zs 1 0 0 1).2 from if_pos hv]
    have HC := Lib.hid (l04Convergents_any A n cap zs w h hv)
    rw [hv] at HV
    unfold ResF at HC
    generalize (scvR zs 1 0 0 1).1 = fs at *
    generalize (scvR zs 1 0 0 1).2 = k at *
    clear hv
    go_enter Try.func7, Try.ntmps7
    go_wp2_with fail
    refine HV.out.mono ?_
    rintro e w' ⟨rfl, rfl⟩
    go_wp2_with fail
    refine HC.out.mono ?_
    rintro e w1 ⟨⟨B, c, rfl, ho⟩, hb1⟩
    have HO := Lib.hid ho
    clear ho
    go_wp2_with fail
    go_ret2
    exact ⟨⟨_, _, rfl, HO.out⟩, hb1⟩
end Go.Proofs.Ytlpglibnjmjjkaa
