/-
  The order of terms: contracts of the program's and of the reference's functions; the walk of the law FnExactCompareTerms.
  No condition but those of the law's own text.
-/
import Derived.Test.YtjkonkoiofhefaaProg
import Derived.Test.YtjkonkoiofhefaaMem
import Derived.Test.YtjkonkoiofhefaaBasic
import Derived.Test.YtjkonkoiofhefaaAllk
import Derived.Test.YtjkonkoiofhefaaInts
import Derived.Test.YtjkonkoiofhefaaFrac
import Derived.Test.YtjkonkoiofhefaaFrac2
import Derived.Test.YtjkonkoiofhefaaTerms
import Derived.Test.YtjkonkoiofhefaaMarks
import Derived.Test.YtjkonkoiofhefaaOwn
import Derived.Test.YtjkonkoiofhefaaShort
import Derived.Test.YtjkonkoiofhefaaCvg
import Derived.Test.YtjkonkoiofhefaaCvgL
import Derived.Test.YtjkonkoiofhefaaOtf
import Derived.Handy
import Derived.BigQuiet
import Derived.Deep.QuietTactic
namespace Go.Proofs.Ytjkonkoiofhefaa
open Go.RowKit
set_option linter.unusedVariables false
set_option linter.unusedSimpArgs false
attribute [local go_sem ↓] Go.wp_at_zero Go.wp_at_succ

/-- The order of the values of terms; s is 1 at even places and -1 at odd ones. -/
def cmpT : Int → List Int → List Int → Int
  | _, [], [] => 0
  | s, [], _ :: _ => s
  | s, _ :: _, [] => -s
  | s, x :: a, y :: b => if x < y then -s else if y < x then s else cmpT (-s) a b
def sgP (k : Nat) : Int := if k % 2 = 1 then -1 else 1
theorem sgP_succ (k : Nat) : sgP (k + 1) = - sgP k := by unfold sgP; split <;> split <;> omega
/-- All places ahead of k are equal: the rest decides. -/
def CmpAt (zs ys : List Int) (k : Nat) : Prop := cmpT (sgP k) (zs.drop k) (ys.drop k) = cmpT 1 zs ys
theorem CmpAt.start (zs ys : List Int) : CmpAt zs ys 0 := rfl
theorem CmpAt.done {zs ys : List Int} {k : Nat} (h : CmpAt zs ys k) (h1 : zs.length ≤ k) (h2 : ys.length ≤ k) : cmpT 1 zs ys = 0 := by
  unfold CmpAt at h; rw [← h, List.drop_of_length_le h1, List.drop_of_length_le h2]; rfl
theorem CmpAt.left {zs ys : List Int} {k : Nat} {y : Int} (h : CmpAt zs ys k) (h1 : zs.length ≤ k) (h2 : ys[k]? = some y) : cmpT 1 zs ys = sgP k := by
  unfold CmpAt at h; rw [← h, List.drop_of_length_le h1, drop_at h2]; rfl
theorem CmpAt.right {zs ys : List Int} {k : Nat} {x : Int} (h : CmpAt zs ys k) (h1 : zs[k]? = some x) (h2 : ys.length ≤ k) : cmpT 1 zs ys = - sgP k := by
  unfold CmpAt at h; rw [← h, List.drop_of_length_le h2, drop_at h1]; rfl
theorem CmpAt.less {zs ys : List Int} {k : Nat} {x y : Int} (h : CmpAt zs ys k) (h1 : zs[k]? = some x) (h2 : ys[k]? = some y) (hl : x < y) : cmpT 1 zs ys = - sgP k := by
  unfold CmpAt at h; rw [← h, drop_at h1, drop_at h2, cmpT, if_pos hl]
theorem CmpAt.more {zs ys : List Int} {k : Nat} {x y : Int} (h : CmpAt zs ys k) (h1 : zs[k]? = some x) (h2 : ys[k]? = some y) (hl : y < x) : cmpT 1 zs ys = sgP k := by
  unfold CmpAt at h; rw [← h, drop_at h1, drop_at h2, cmpT, if_neg (by omega), if_pos hl]
theorem CmpAt.same {zs ys : List Int} {k : Nat} {x : Int} (h : CmpAt zs ys k) (h1 : zs[k]? = some x) (h2 : ys[k]? = some x) : CmpAt zs ys (k + 1) := by
  unfold CmpAt at h ⊢; rw [← h, drop_at h1, drop_at h2, cmpT, if_neg (by omega), if_neg (by omega), sgP_succ]

set_option maxHeartbeats 6400000 in
theorem compareShort_any (A : Option Addr) (n cap : Nat) (B : Option Addr) (m cap' : Nat) (zs ys : List Int) (w : World) (h : IRow w A n zs) (h' : IRow w B m ys) (hn : n ≤ 1048577) (hm : m ≤ 1048577) :
    Calls Try.prog 59 #[.slice A n cap, .slice B m cap'] w fun e w' => e = .returned (.int .i64 (cmpT 1 zs ys)) ∧ Below w.heap.size w w' := by
  have Hl := Lib.hid h.len
  have Hl' := Lib.hid h'.len
  have hw := Lib.hid h; clear h
  have hw' := Lib.hid h'; clear h'
  go_enter Try.func59, Try.ntmps59
  go_wp2_with fail
  go_loopw [5] (fun i wr => ∃ k : Nat, k ≤ 1048577 ∧ i = .int .i64 k ∧ Hid (CmpAt zs ys k) ∧ Below w.heap.size w wr) (fun i _ => 1048577 - (intOf i).toNat)
  case atStart => exact ⟨0, by omega, rfl, CmpAt.start _ _, Below.refl _ _⟩
  case round =>
    obtain ⟨k, hk, rfl, HC, hb⟩ := hrel
    have hk0 : (0 : Int) ≤ (k : Int) := by omega
    rcases Nat.mod_two_eq_zero_or_one k with hpar | hpar
    · have hs : sgP k = 1 := by unfold sgP; rw [hpar]; rfl
      have hp1 : ((k : Int) % 2 == 1) = false := by (rw [beq_eq_false_iff_ne]; omega)
      have HS := Lib.hid hs
      clear hs hpar
      by_cases hlt : k < n
      · obtain ⟨ad, x, rfl, hx, x1, x2, hc⟩ := (hw.out.below hb).at_ hlt
        have HX := Lib.hid hx
        clear hx
        by_cases hlt' : k < m
        · obtain ⟨ad', y, rfl, hy, y1, y2, hc'⟩ := (hw'.out.below hb).at_ hlt'
          have HY := Lib.hid hy
          clear hy
          have a1 : (k : Int) < (n : Int) := by omega
          have a2 : (k : Int) < (m : Int) := by omega
          have a3 : decide ((n : Int) ≤ (k : Int)) = false := decide_eq_false (by omega)
          have a4 : decide ((m : Int) ≤ (k : Int)) = false := decide_eq_false (by omega)
          rcases (by omega : x < y ∨ y < x ∨ x = y) with h | h | h
          · have hcm : cmpI x y = -1 := if_pos h
            have HQ := Lib.hid (fun (w : World) => compare_any x y w)
            rw [hcm] at HQ
            have HH := Lib.hid h
            clear h hcm
            go_wp2_with fail
            go_quiet ((go_at_call 100; exact quiet_eq (HQ.out _)))
            go_wp2_with fail
            go_ret
            exact ⟨ret_int (by rw [HC.out.less HX.out HY.out HH.out, HS.out]; try rfl), hb.trans (below_drewN _ _ _)⟩
          · have hcm : cmpI x y = 1 := by unfold cmpI; rw [if_neg (by omega), if_pos h]
            have HQ := Lib.hid (fun (w : World) => compare_any x y w)
            rw [hcm] at HQ
            have HH := Lib.hid h
            clear h hcm
            go_wp2_with fail
            go_quiet ((go_at_call 100; exact quiet_eq (HQ.out _)))
            go_wp2_with fail
            go_ret
            exact ⟨ret_int (by rw [HC.out.more HX.out HY.out HH.out, HS.out]; try rfl), hb.trans (below_drewN _ _ _)⟩
          · subst h
            have hcm : cmpI x x = 0 := by unfold cmpI; rw [if_neg (by omega), if_neg (by omega)]
            have HQ := Lib.hid (fun (w : World) => compare_any x x w)
            rw [hcm] at HQ
            clear hcm
            go_wp2_with fail
            go_quiet ((go_at_call 100; exact quiet_eq (HQ.out _)))
            go_wp2_with fail
            go_roundw
            case rel => exact ⟨k + 1, by omega, by go_num, HC.out.same HX.out HY.out, hb.trans (below_drewN _ _ _)⟩
            case measure => simp [intOf]; omega
        · have a1 : (k : Int) < (n : Int) := by omega
          have a4 : ¬ (k : Int) < (m : Int) := by omega
          go_wp2_with fail
          go_ret
          exact ⟨ret_int (by rw [HC.out.right HX.out (by rw [Hl'.out]; omega), HS.out]; try rfl), hb⟩
      · by_cases hlt' : k < m
        · obtain ⟨ad', y, rfl, hy, y1, y2, hc'⟩ := (hw'.out.below hb).at_ hlt'
          have HY := Lib.hid hy
          clear hy
          go_wp2_with fail
          go_ret
          exact ⟨ret_int (by rw [HC.out.left (by rw [Hl.out]; omega) HY.out, HS.out]; try rfl), hb⟩
        · go_wp2_with fail
          go_ret
          exact ⟨ret_int (by rw [HC.out.done (by rw [Hl.out]; omega) (by rw [Hl'.out]; omega)]), hb⟩
    · have hs : sgP k = (-1) := by unfold sgP; rw [hpar]; rfl
      have hp1 : ((k : Int) % 2 == 1) = true := by (rw [beq_iff_eq]; omega)
      have HS := Lib.hid hs
      clear hs hpar
      by_cases hlt : k < n
      · obtain ⟨ad, x, rfl, hx, x1, x2, hc⟩ := (hw.out.below hb).at_ hlt
        have HX := Lib.hid hx
        clear hx
        by_cases hlt' : k < m
        · obtain ⟨ad', y, rfl, hy, y1, y2, hc'⟩ := (hw'.out.below hb).at_ hlt'
          have HY := Lib.hid hy
          clear hy
          have a1 : (k : Int) < (n : Int) := by omega
          have a2 : (k : Int) < (m : Int) := by omega
          have a3 : decide ((n : Int) ≤ (k : Int)) = false := decide_eq_false (by omega)
          have a4 : decide ((m : Int) ≤ (k : Int)) = false := decide_eq_false (by omega)
          rcases (by omega : x < y ∨ y < x ∨ x = y) with h | h | h
          · have hcm : cmpI x y = -1 := if_pos h
            have HQ := Lib.hid (fun (w : World) => compare_any x y w)
            rw [hcm] at HQ
            have HH := Lib.hid h
            clear h hcm
            go_wp2_with fail
            go_quiet ((go_at_call 100; exact quiet_eq (HQ.out _)))
            go_wp2_with fail
            go_ret
            exact ⟨ret_int (by rw [HC.out.less HX.out HY.out HH.out, HS.out]; try rfl), hb.trans (below_drewN _ _ _)⟩
          · have hcm : cmpI x y = 1 := by unfold cmpI; rw [if_neg (by omega), if_pos h]
            have HQ := Lib.hid (fun (w : World) => compare_any x y w)
            rw [hcm] at HQ
            have HH := Lib.hid h
            clear h hcm
            go_wp2_with fail
            go_quiet ((go_at_call 100; exact quiet_eq (HQ.out _)))
            go_wp2_with fail
            go_ret
            exact ⟨ret_int (by rw [HC.out.more HX.out HY.out HH.out, HS.out]; try rfl), hb.trans (below_drewN _ _ _)⟩
          · subst h
            have hcm : cmpI x x = 0 := by unfold cmpI; rw [if_neg (by omega), if_neg (by omega)]
            have HQ := Lib.hid (fun (w : World) => compare_any x x w)
            rw [hcm] at HQ
            clear hcm
            go_wp2_with fail
            go_quiet ((go_at_call 100; exact quiet_eq (HQ.out _)))
            go_wp2_with fail
            go_roundw
            case rel => exact ⟨k + 1, by omega, by go_num, HC.out.same HX.out HY.out, hb.trans (below_drewN _ _ _)⟩
            case measure => simp [intOf]; omega
        · have a1 : (k : Int) < (n : Int) := by omega
          have a4 : ¬ (k : Int) < (m : Int) := by omega
          go_wp2_with fail
          go_ret
          exact ⟨ret_int (by rw [HC.out.right HX.out (by rw [Hl'.out]; omega), HS.out]; try rfl), hb⟩
      · by_cases hlt' : k < m
        · obtain ⟨ad', y, rfl, hy, y1, y2, hc'⟩ := (hw'.out.below hb).at_ hlt'
          have HY := Lib.hid hy
          clear hy
          go_wp2_with fail
          go_ret
          exact ⟨ret_int (by rw [HC.out.left (by rw [Hl.out]; omega) HY.out, HS.out]; try rfl), hb⟩
        · go_wp2_with fail
          go_ret
          exact ⟨ret_int (by rw [HC.out.done (by rw [Hl.out]; omega) (by rw [Hl'.out]; omega)]), hb⟩
/-- The order of two lists of terms, and a code. -/
def cpT (zs ys : List Int) : Int := if trmB zs = true ∧ trmB ys = true then cmpT 1 (shL zs) (shL ys) else 0
def cpC (zs ys : List Int) : Int := if trmB zs = true ∧ trmB ys = true then 0 else 1
set_option maxHeartbeats 1600000 in
theorem implCpt_any (A : Option Addr) (n cap : Nat) (B : Option Addr) (m cap' : Nat) (zs ys : List Int) (w : World) (h : IRow w A n zs) (h' : IRow w B m ys) (hcap : n ≤ cap) (hcap' : m ≤ cap') :
    Calls Try.prog 22 #[.slice A n cap, .slice B m cap'] w fun e w' => e = .returned (.tuple #[.int .i64 (cpT zs ys), .int .i64 (cpC zs ys)]) ∧ Below w.heap.size w w' := by
  have HV := Lib.hid (validTerms_any A n cap zs w h hcap)
  have HV' := Lib.hid (validTerms_any B m cap' ys w h' hcap')
  cases h1 : trmB zs
  · rw [show cpT zs ys = 0 from if_neg (by simp [h1]), show cpC zs ys = 1 from if_neg (by simp [h1])]
    rw [h1] at HV
    go_enter Try.func22, Try.ntmps22
    go_wp2_with fail
    refine HV.out.mono ?_
    rintro e w' ⟨rfl, rfl⟩
    go_wp2_with fail
    go_ret2
    exact ⟨rfl, Below.refl _ _⟩
  · rw [h1] at HV
    cases h2 : trmB ys
    · rw [show cpT zs ys = 0 from if_neg (by simp [h2]), show cpC zs ys = 1 from if_neg (by simp [h2])]
      rw [h2] at HV'
      go_enter Try.func22, Try.ntmps22
      go_wp2_with fail
      refine HV.out.mono ?_
      rintro e w' ⟨rfl, rfl⟩
      go_wp2_with fail
      refine HV'.out.mono ?_
      rintro e w' ⟨rfl, rfl⟩
      go_wp2_with fail
      go_ret2
      exact ⟨rfl, Below.refl _ _⟩
    · rw [show cpT zs ys = cmpT 1 (shL zs) (shL ys) from if_pos ⟨h1, h2⟩, show cpC zs ys = 0 from if_pos ⟨h1, h2⟩]
      rw [h2] at HV'
      obtain ⟨t1, t2, t3⟩ := trm_in h1
      obtain ⟨u1, u2, u3⟩ := trm_in h2
      rw [h.len] at t1 t2
      rw [h'.len] at u1 u2
      have HK := Lib.hid (shortForm_any A n cap zs w h hcap t1 (by omega) (trm_in2 h1))
      have HK' := Lib.hid (fun w h => shortForm_any B m cap' ys w h hcap' u1 (by omega) (trm_in2 h2))
      have Hh := Lib.hid h'
      have HR := Lib.hid (shL_in t3)
      have HR' := Lib.hid (shL_in u3)
      have L1 := shL_len zs
      have L2 := shL_len ys
      rw [h.len] at L1
      rw [h'.len] at L2
      generalize shL zs = xs at *
      generalize shL ys = vs at *
      clear h h' h1 h2 t3 u3
      go_enter Try.func22, Try.ntmps22
      go_wp2_with fail
      refine HV.out.mono ?_
      rintro e w' ⟨rfl, rfl⟩
      go_wp2_with fail
      refine HV'.out.mono ?_
      rintro e w' ⟨rfl, rfl⟩
      go_wp2_with fail
      refine HK.out.mono ?_
      rintro e w1 ⟨⟨A1, c1, rfl, o1⟩, hb1⟩
      have O1 := Lib.hid o1
      clear o1
      go_wp2_with fail
      refine (HK'.out _ (Hh.out.below hb1)).mono ?_
      rintro e w2 ⟨⟨A2, c2, rfl, o2⟩, hb2⟩
      have O2 := Lib.hid o2
      have O3 := Lib.hid (own_below O1.out hb2)
      have hB2 : Below w.heap.size w w2 := hb1.trans (hb2.mono hb1.size)
      clear o2 hb1 hb2 O1
      go_wp2_with fail
      refine (compareShort_any A1 _ c1 A2 _ c2 xs vs _ (IRow.of_own O3.out (by omega) HR.out) (IRow.of_own O2.out (by omega) HR'.out) (by omega) (by omega)).mono ?_
      rintro e w3 ⟨rfl, hb3⟩
      go_wp2_with fail
      go_ret2
      exact ⟨rfl, hB2.trans (hb3.mono hB2.size)⟩
end Go.Proofs.Ytjkonkoiofhefaa
