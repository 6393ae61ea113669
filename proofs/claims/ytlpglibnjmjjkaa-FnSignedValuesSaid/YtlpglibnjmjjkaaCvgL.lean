/-
  The convergents and the value of terms: contracts of the exported functions; the walks of the laws FnExactConvergentsOf and FnExactValueOfTerms.
  No condition but those of the laws' own texts.
-/
import Derived.Test.YtlpglibnjmjjkaaProg
import Derived.Test.YtlpglibnjmjjkaaMem
import Derived.Test.YtlpglibnjmjjkaaBasic
import Derived.Test.YtlpglibnjmjjkaaAllk
import Derived.Test.YtlpglibnjmjjkaaInts
import Derived.Test.YtlpglibnjmjjkaaFrac
import Derived.Test.YtlpglibnjmjjkaaFrac3
import Derived.Test.YtlpglibnjmjjkaaTerms
import Derived.Test.YtlpglibnjmjjkaaMarks
import Derived.Test.YtlpglibnjmjjkaaOwn
import Derived.Test.YtlpglibnjmjjkaaEqF
import Derived.Test.YtlpglibnjmjjkaaCvg
import Derived.Handy
import Derived.BigQuiet
import Derived.Deep.QuietTactic
namespace Go.Proofs.Ytlpglibnjmjjkaa
open Go.RowKit
set_option linter.unusedVariables false
attribute [local go_sem ↓] Go.wp_at_zero Go.wp_at_succ

theorem trm_in {zs : List Int} (h : trmB zs = true) : 1 ≤ zs.length ∧ zs.length ≤ 60 ∧ ∀ z ∈ zs, -1000000000 ≤ z ∧ z ≤ 1000000000 := by
  obtain ⟨h1, h2, h3⟩ := trmB_iff.1 h
  refine ⟨h1, h2, fun z hz => ?_⟩
  obtain ⟨k, hk⟩ := List.mem_iff_getElem?.1 hz
  have := h3 k z hk
  split at this <;> omega
theorem trm_in2 {zs : List Int} (h : trmB zs = true) : ∀ z ∈ zs, -2000000000 ≤ z ∧ z ≤ 2000000000 := fun z hz => by have := (trm_in h).2.2 z hz; omega

/-- The convergents of terms, and the code. -/
def cvfL (zs : List Int) : List (Int × Int) := if trmB zs = true then cvgL zs else []
def cvfC (zs : List Int) : Int := if trmB zs = true then (if cvgB zs = true then 0 else 5) else 1
theorem cvfL_len (zs : List Int) : (cvfL zs).length ≤ zs.length := by
  unfold cvfL
  split
  · exact cvgL_len zs
  · exact Nat.zero_le _
theorem cvfL_rng (zs : List Int) : ∀ z ∈ cvfL zs, Rng z.1 ∧ Rng z.2 := by
  unfold cvfL
  split
  · exact cvgL_rng zs
  · intro z hz; cases hz
theorem cvg_nil {zs : List Int} (h : cvgB zs = false) : cvgL zs = [] := by
  unfold cvgB at h
  unfold cvgL
  cases hc : cvgO zs 1 0 0 1 with
  | none => rfl
  | some l => rw [hc] at h; cases h
theorem cvg_full {zs : List Int} (h : cvgB zs = true) : (cvgL zs).length = zs.length := by
  unfold cvgB at h
  unfold cvgL
  cases hc : cvgO zs 1 0 0 1 with
  | none => rw [hc] at h; cases h
  | some l => exact (cvgO_len zs _ _ _ _ l hc).1

theorem implCvf_any (A : Option Addr) (n cap : Nat) (zs : List Int) (w : World) (h : IRow w A n zs) (hcap : n ≤ cap) :
    Calls Try.prog 46 #[.slice A n cap] w fun e w' => ResF w.heap.size (cvfL zs) (cvfC zs) e w' ∧ Below w.heap.size w w' := by
  cases ht : trmB zs
  · rw [show cvfL zs = [] from if_neg (by simp [ht]), show cvfC zs = 1 from if_neg (by simp [ht])]
    go_enter Try.func46, Try.ntmps46
    go_wp2_with fail
    refine (validTerms_any A n cap zs _ h hcap).mono ?_
    rintro e w' ⟨rfl, rfl⟩
    go_wp2_with fail
    go_ret2
    exact ⟨⟨none, 0, rfl, World.ownsRow_nil ..⟩, Below.refl _ _⟩
  · obtain ⟨t1, t2, t3⟩ := trm_in ht
    have hn : n ≤ 60 := by rw [← h.len]; exact t2
    rw [show cvfL zs = cvgL zs from if_pos ht, show cvfC zs = if cvgB zs = true then 0 else 5 from if_pos ht]
    have HC := Lib.hid (convergents_any A n cap zs w h (by omega) (trm_in2 ht))
    clear t1 t2 t3
    cases hb : cvgB zs
    · rw [cvg_nil hb] at *
      go_enter Try.func46, Try.ntmps46
      go_wp2_with fail
      refine (validTerms_any A n cap zs _ h hcap).mono ?_
      rintro e w' ⟨rfl, rfl⟩
      go_wp2_with fail
      refine HC.out.mono ?_
      rintro e w1 ⟨⟨B, c, rfl, ho⟩, hb1⟩
      clear ho
      go_wp2_with fail
      go_ret2
      exact ⟨⟨none, 0, rfl, World.ownsRow_nil ..⟩, hb1⟩
    · go_enter Try.func46, Try.ntmps46
      go_wp2_with fail
      refine (validTerms_any A n cap zs _ h hcap).mono ?_
      rintro e w' ⟨rfl, rfl⟩
      go_wp2_with fail
      refine HC.out.mono ?_
      rintro e w1 ⟨⟨B, c, rfl, ho⟩, hb1⟩
      have HO := Lib.hid ho
      clear ho
      go_wp2_with fail
      go_ret2
      exact ⟨⟨B, c, rfl, HO.out⟩, hb1⟩
end Go.Proofs.Ytlpglibnjmjjkaa
