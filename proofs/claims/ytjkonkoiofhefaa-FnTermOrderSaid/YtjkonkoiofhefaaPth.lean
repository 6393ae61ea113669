/-
  The paths to fractions and the codes of positive fractions: contracts of the program's and of the reference's functions.
  No condition but that the fractions are plain where the functions ask it.
-/
import Derived.Test.YtjkonkoiofhefaaProg
import Derived.Test.YtjkonkoiofhefaaMem
import Derived.Test.YtjkonkoiofhefaaBasic
import Derived.Test.YtjkonkoiofhefaaAllk
import Derived.Test.YtjkonkoiofhefaaFrac
import Derived.Test.YtjkonkoiofhefaaFrac2
import Derived.Test.YtjkonkoiofhefaaMarks
import Derived.Test.YtjkonkoiofhefaaOwn
import Derived.Test.YtjkonkoiofhefaaShort
import Derived.Test.YtjkonkoiofhefaaExp
import Derived.Test.YtjkonkoiofhefaaPthM
import Derived.Handy
import Derived.BigQuiet
import Derived.Deep.QuietTactic
import Derived.Deep.AppendLies
namespace Go.Proofs.Ytjkonkoiofhefaa
open Go.RowKit
set_option linter.unusedVariables false
attribute [local go_sem ↓] Go.wp_at_zero Go.wp_at_succ

set_option maxHeartbeats 1600000 in
theorem pathTo_any (p : Int) (d : Nat) (w : World) (h1 : -1000000000 ≤ p) (h2 : p ≤ 1000000000) (h3 : d ≤ 1000000000) (h4 : 0 < d) :
    Calls Try.prog 70 #[.agg #[.int .i64 p, .int .i64 (d : Int)]] w fun e w' => RetN w.heap.size (pthL p d).length (pthL p d) e w' ∧ Below w.heap.size w w' := by
  obtain ⟨m, hm⟩ : ∃ m, (expN p d).length = m + 1 := ⟨(expN p d).length - 1, by have := List.length_pos_iff.2 (expN_ne (a := p) h4); omega⟩
  obtain ⟨z, hz⟩ : ∃ z, (expN p d)[m]? = some z := ⟨_, List.getElem?_eq_getElem (by omega)⟩
  have hmd : m < d := by have := expN_len d p; omega
  obtain ⟨b1, b2⟩ := expN_rng d p h1 h2 h3 z (List.mem_of_getElem? hz)
  have HC : Hid (∀ w, Calls Try.prog 106 #[.int .i64 p, .int .i64 (d : Int)] w fun e w' => (∃ A c, e = .returned (.slice A (m + 1) c) ∧ w'.ownsRow w.heap.size 2 1 (.slice A (m + 1) c) (m + 1) ((expN p d).map (Value.int .i64))) ∧ Below w.heap.size w w') := fun w => (expand_any p d w h1 h2 h3).mono fun e w' hh => by
    unfold RetI at hh; rw [hm] at hh; exact hh
  by_cases h1z : z = 1
  · subst h1z
    obtain ⟨rfl, hp⟩ := pthL_one h4 hm hz
    rw [hp]
    have HZ := Lib.hid hz
    clear hm hz hp
    go_enter Try.func70, Try.ntmps70
    go_wp2_with fail
    refine (HC.out _).mono ?_
    rintro e w1 ⟨⟨A, c, rfl, ho⟩, hb⟩
    have hB : Below w.heap.size w w1 := ((Below.refl _ _).alloc (Nat.le_refl _) _).trans (hb.mono (by simp))
    obtain ⟨g, rfl, hg1, hg2⟩ := own_some ho (by omega)
    have hg1' : w.heap.size ≤ g := by simp at hg1; omega
    have hcell := own_cellI ho HZ.out
    have hfr := ho.frozenAt 0
    have hcap := own_cap ho
    have HS := Lib.hid (own_base (own_truncI (own_setI ho 0 0) 0 (by omega)) (base' := w.heap.size) (by simp))
    clear ho HC hb hg1
    go_wp2_with fail
    go_ret
    exact ⟨⟨_, _, rfl, HS.out⟩, hB.setCell (p := ⟨g, 0, none⟩) hg1' _⟩
  · have hp := pthL_set hm hz h1z
    have hlen : (pthL p d).length = m + 1 := by rw [hp, List.length_set, hm]
    rw [hlen, hp]
    have HZ := Lib.hid hz
    have hne : (z - 1 == 0) = false := by rw [beq_eq_false_iff_ne]; omega
    have hne2 : z - 1 < 0 ∨ 0 < z - 1 := by omega
    clear hm hz hp hlen h1z
    go_enter Try.func70, Try.ntmps70
    go_wp2_with fail
    refine (HC.out _).mono ?_
    rintro e w1 ⟨⟨A, c, rfl, ho⟩, hb⟩
    have hB : Below w.heap.size w w1 := ((Below.refl _ _).alloc (Nat.le_refl _) _).trans (hb.mono (by simp))
    obtain ⟨g, rfl, hg1, hg2⟩ := own_some ho (by omega)
    have hg1' : w.heap.size ≤ g := by simp at hg1; omega
    have hcell := own_cellI ho HZ.out
    have hfr := ho.frozenAt m
    have hcap := own_cap ho
    have HS := Lib.hid (own_base (own_setI ho m (z - 1)) (base' := w.heap.size) (by simp))
    clear ho HC hb hg1
    go_wp2_with fail
    go_ret
    exact ⟨⟨_, _, rfl, HS.out⟩, hB.setCell (p := ⟨g, m, none⟩) hg1' _⟩
set_option maxHeartbeats 1600000 in
theorem l05Path_any (p : Int) (d : Nat) (w : World) (h1 : -1000000000 ≤ p) (h2 : p ≤ 1000000000) (h3 : d ≤ 1000000000) (h4 : 0 < d) :
    Calls Try.prog 66 #[.agg #[.int .i64 p, .int .i64 (d : Int)]] w fun e w' => RetN w.heap.size (pthL p d).length (pthL p d) e w' ∧ Below w.heap.size w w' := by
  obtain ⟨m, hm⟩ : ∃ m, (expN p d).length = m + 1 := ⟨(expN p d).length - 1, by have := List.length_pos_iff.2 (expN_ne (a := p) h4); omega⟩
  obtain ⟨z, hz⟩ : ∃ z, (expN p d)[m]? = some z := ⟨_, List.getElem?_eq_getElem (by omega)⟩
  have hmd : m < d := by have := expN_len d p; omega
  obtain ⟨b1, b2⟩ := expN_rng d p h1 h2 h3 z (List.mem_of_getElem? hz)
  have HC : Hid (∀ w, Calls Try.prog 55 #[.agg #[.int .i64 p, .int .i64 (d : Int)]] w fun e w' => (∃ A c, e = .returned (.slice A (m + 1) c) ∧ w'.ownsRow w.heap.size 2 1 (.slice A (m + 1) c) (m + 1) ((expN p d).map (Value.int .i64))) ∧ Below w.heap.size w w') := fun w => (l03Terms_any p d w h1 h2 h3).mono fun e w' hh => by
    unfold RetI at hh; rw [hm] at hh; exact hh
  by_cases h1z : z = 1
  · subst h1z
    obtain ⟨rfl, hp⟩ := pthL_one h4 hm hz
    rw [hp]
    have HZ := Lib.hid hz
    clear hm hz hp
    go_enter Try.func66, Try.ntmps66
    go_wp2_with fail
    refine (HC.out _).mono ?_
    rintro e w1 ⟨⟨A, c, rfl, ho⟩, hb⟩
    have hB : Below w.heap.size w w1 := ((Below.refl _ _).alloc (Nat.le_refl _) _).trans (hb.mono (by simp))
    obtain ⟨g, rfl, hg1, hg2⟩ := own_some ho (by omega)
    have hg1' : w.heap.size ≤ g := by simp at hg1; omega
    have hcell := own_cellI ho HZ.out
    have hfr := ho.frozenAt 0
    have hs1 : w.heap.size ≤ w1.heap.size := hB.size
    clear ho HC hb hg1
    go_wp2_with fail
    go_ret
    refine ⟨⟨_, _, rfl, ?_⟩, (hB.setCell (p := ⟨g, 0, none⟩) hg1' _).alloc (by simp; omega) _⟩
    have := World.ownsRow_made (base := w.heap.size) (e := 2) (size := 1) (w1.setCell ⟨g, 0, none⟩ (.int .i64 0)) #[] 0 (by simp; omega) (by decide) rfl
    simpa using this
  · have hp := pthL_set hm hz h1z
    have hlen : (pthL p d).length = m + 1 := by rw [hp, List.length_set, hm]
    rw [hlen, hp]
    have HZ := Lib.hid hz
    have hne : (z - 1 == 0) = false := by rw [beq_eq_false_iff_ne]; omega
    have hne2 : z - 1 < 0 ∨ 0 < z - 1 := by omega
    clear hm hz hp hlen h1z
    go_enter Try.func66, Try.ntmps66
    go_wp2_with fail
    refine (HC.out _).mono ?_
    rintro e w1 ⟨⟨A, c, rfl, ho⟩, hb⟩
    have hB : Below w.heap.size w w1 := ((Below.refl _ _).alloc (Nat.le_refl _) _).trans (hb.mono (by simp))
    obtain ⟨g, rfl, hg1, hg2⟩ := own_some ho (by omega)
    have hg1' : w.heap.size ≤ g := by simp at hg1; omega
    have hcell := own_cellI ho HZ.out
    have hfr := ho.frozenAt m
    have HS := Lib.hid (own_base (own_setI ho m (z - 1)) (base' := w.heap.size) (by simp))
    clear ho HC hb hg1
    go_wp2_with fail
    go_ret
    exact ⟨⟨_, _, rfl, HS.out⟩, hB.setCell (p := ⟨g, m, none⟩) hg1' _⟩

/-- The code of fractions that must be positive. -/
def vfE (_ : Nat) (z : Int × Int) : Bool := vfB z.1 z.2
def ppE (_ : Nat) (z : Int × Int) : Bool := decide (0 < z.1)
def posL (zs : List (Int × Int)) : Int := if allK vfE 0 zs = true then (if allK ppE 0 zs = true then 0 else 2) else 1
def posC (p q : Int) : Int := if vfB p q = true then (if 0 < p then 0 else 2) else 1
theorem posL_one (p q : Int) : posL [(p, q)] = posC p q := by
  unfold posL posC
  simp [allK, vfE, ppE]
theorem prow_one {w : World} {b : Nat} {p q : Int} (c0 : w.cell? ⟨b, 0, none⟩ = some (.int .i64 p)) (c1 : w.cell? ⟨b, 1, none⟩ = some (.int .i64 q)) (hp : Rng p) (hq : Rng q) : PRow w (some ⟨b, 0, none⟩) 1 [(p, q)] := by
  refine ⟨rfl, by omega, ?_, ?_⟩
  · intro z hz; rw [List.mem_singleton] at hz; subst hz; exact ⟨hp, hq⟩
  · rintro (_ | _ | j) u hu
    · simp [prs] at hu; subst hu; exact ⟨_, rfl, by simpa [addr_zero] using c0⟩
    · simp [prs] at hu; subst hu; exact ⟨_, rfl, by simpa [addr_zero] using c1⟩
    · simp [prs] at hu

set_option maxHeartbeats 1600000 in
theorem checkPositive_any (A : Option Addr) (n cap : Nat) (zs : List (Int × Int)) (w : World) (h : PRow w A n zs) :
    Calls Try.prog 67 #[.slice A n cap] w fun e w' => e = .returned (.int .i64 (posL zs)) ∧ Below w.heap.size w w' := by
  have hbd := h.bd
  have Hl := Lib.hid h.len
  have hw := Lib.hid h; clear h
  go_enter Try.func67, Try.ntmps67
  go_wp2_with fail
  go_loopw [9] (fun i wr => ∃ k : Nat, k ≤ n ∧ i = .int .i64 k ∧ Hid (Upto vfE zs k) ∧ Below w.heap.size w wr) (fun i _ => n - (intOf i).toNat)
  case atStart => exact ⟨0, Nat.zero_le _, rfl, Upto.zero _ _, Below.refl _ _⟩
  case round =>
    obtain ⟨k, hk, rfl, HU, hb⟩ := hrel
    have hs0 : w.heap.size ≤ wr.heap.size := hb.size
    by_cases hlt : k < n
    · obtain ⟨bb, o, x, y, rfl, hz, _, _, _, _, hc1, hc2⟩ := (hw.out.below hb).at_ hlt
      have HZ := Lib.hid hz; clear hz
      cases hv : vfB x y
      · go_wp2_with fail
        refine (validFraction_any x y _).mono ?_
        rintro e w2 ⟨rfl, hb2⟩
        have hb3 := (hb.alloc hs0 _).trans (hb2.mono (by simp; omega))
        go_wp2_with fail
        go_ret
        exact ⟨ret_int (by unfold posL; rw [allK_f vfE zs 0 k _ HZ.out (by rw [Nat.zero_add]; exact hv)]; rfl), hb3⟩
      · go_wp2_with fail
        refine (validFraction_any x y _).mono ?_
        rintro e w2 ⟨rfl, hb2⟩
        have hb3 := (hb.alloc hs0 _).trans (hb2.mono (by simp; omega))
        go_wp2_with fail
        go_roundw
        case rel => exact ⟨k + 1, by omega, by go_num, HU.out.step HZ.out hv, hb3⟩
        case measure => simp [intOf]; omega
    · obtain rfl : n = k := by omega
      have HV := Lib.hid (HU.out.all (by have := Hl.out; omega))
      go_wp2_with fail
      rename World => wx
      go_loopw [19] (fun i wr => ∃ k : Nat, k ≤ n ∧ i = .int .i64 k ∧ Hid (Upto ppE zs k) ∧ Below w.heap.size w wr) (fun i _ => n - (intOf i).toNat)
      case atStart => exact ⟨0, Nat.zero_le _, rfl, Upto.zero _ _, hb⟩
      case round =>
        obtain ⟨k, hk, rfl, HU, hb⟩ := hrel
        have hs0 : w.heap.size ≤ wr.heap.size := hb.size
        by_cases hlt : k < n
        · obtain ⟨bb, o, x, y, rfl, hz, _, _, _, _, hc1, hc2⟩ := (hw.out.below hb).at_ hlt
          have HZ := Lib.hid hz; clear hz
          by_cases hx : 0 < x
          · have hx' : 1 ≤ x := hx
            have hx2 : decide (x ≤ 0) = false := decide_eq_false (by omega)
            go_wp2_with fail
            go_roundw
            case rel => exact ⟨k + 1, by omega, by go_num, HU.out.step HZ.out (by unfold ppE; exact decide_eq_true hx), hb.alloc hs0 _⟩
            case measure => simp [intOf]; omega
          · have hx' : x ≤ 0 := by omega
            have hx2 : decide (x ≤ 0) = true := decide_eq_true (by omega)
            go_wp2_with fail
            go_ret
            exact ⟨ret_int (by unfold posL; rw [HV.out, allK_f ppE zs 0 k _ HZ.out (by rw [Nat.zero_add]; exact decide_eq_false (by show ¬ 0 < x; omega))]; rfl), hb.alloc hs0 _⟩
        · obtain rfl : n = k := by omega
          go_wp2_with fail
          go_ret
          exact ⟨ret_int (by unfold posL; rw [HV.out, HU.out.all (by have := Hl.out; omega)]; rfl), hb⟩
end Go.Proofs.Ytjkonkoiofhefaa
