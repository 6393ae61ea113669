/-
  The other form of terms: contracts of the exported functions; the walk of the law FnExactOtherForm.
  No condition but those of the law's own text.
-/
import Derived.Test.YtjkonkoiofhefaaProg
import Derived.Test.YtjkonkoiofhefaaMem
import Derived.Test.YtjkonkoiofhefaaBasic
import Derived.Test.YtjkonkoiofhefaaAllk
import Derived.Test.YtjkonkoiofhefaaInts
import Derived.Test.YtjkonkoiofhefaaTerms
import Derived.Test.YtjkonkoiofhefaaMarks
import Derived.Test.YtjkonkoiofhefaaOwn
import Derived.Test.YtjkonkoiofhefaaShort
import Derived.Test.YtjkonkoiofhefaaCvgL
import Derived.Handy
import Derived.BigQuiet
import Derived.Deep.QuietTactic
import Derived.Deep.AppendLies
namespace Go.Proofs.Ytjkonkoiofhefaa
open Go.RowKit
set_option linter.unusedVariables false
set_option linter.unusedSimpArgs false
attribute [local go_sem ↓] Go.wp_at_zero Go.wp_at_succ

/-- The other terms with the same value. -/
def otL (zs : List Int) : List Int := if shB zs = true then shL zs else zs.set (zs.length - 1) (zs.getD (zs.length - 1) 0 - 1) ++ [1]
def otfL (zs : List Int) : List Int := if trmB zs = true ∧ trmB (otL zs) = true then otL zs else []
def otfC (zs : List Int) : Int := if trmB zs = true then (if trmB (otL zs) = true then 0 else 5) else 1
theorem otL_len (zs : List Int) : (otL zs).length ≤ zs.length + 1 := by
  unfold otL
  split
  · have := shL_len zs; omega
  · simp
theorem otfL_len (zs : List Int) : (otfL zs).length ≤ zs.length + 1 := by
  unfold otfL
  split
  · exact otL_len zs
  · simp
theorem otfL_rng (zs : List Int) : ∀ z ∈ otfL zs, Rng z := by
  unfold otfL
  split
  · rename_i h
    intro z hz
    have := (trm_in h.2).2.2 z hz
    unfold Rng; omega
  · intro z hz; cases hz
theorem shL_in {zs : List Int} (h : ∀ z ∈ zs, -1000000000 ≤ z ∧ z ≤ 1000000000) : ∀ z ∈ shL zs, Rng z := by
  intro z hz
  unfold shL at hz
  split at hz
  · rcases List.mem_or_eq_of_mem_set hz with h1 | h1
    · have := h z (List.mem_of_mem_take h1); unfold Rng; omega
    · have : -1000000000 ≤ zs.getD (zs.length - 2) 0 ∧ zs.getD (zs.length - 2) 0 ≤ 1000000000 := by
        rw [List.getD_eq_getElem?_getD]
        cases hc : zs[zs.length - 2]? with
        | none => simp
        | some y => exact h y (List.mem_of_getElem? hc)
      unfold Rng; omega
  · have := h z hz; unfold Rng; omega

set_option maxRecDepth 100000 in
set_option maxHeartbeats 1600000 in
theorem specOtf_any (A : Option Addr) (n cap : Nat) (zs : List Int) (w : World) (h : IRow w A n zs) (hcap : n ≤ cap) :
    Calls Try.prog 21 #[.slice A n cap] w fun e w' => ResI w.heap.size (otfL zs) (otfC zs) e w' ∧ Below w.heap.size w w' := by
  cases ht : trmB zs
  · rw [show otfL zs = [] from if_neg (by simp [ht]), show otfC zs = 1 from if_neg (by simp [ht])]
    go_enter Try.func21, Try.ntmps21
    go_wp2_with fail
    refine (l03Ok_any A n cap zs _ h  ).mono ?_
    rintro e w' ⟨rfl, rfl⟩
    go_wp2_with fail
    go_ret2
    exact ⟨⟨none, 0, rfl, World.ownsRow_nil ..⟩, Below.refl _ _⟩
  · obtain ⟨t1, t2, t3⟩ := trm_in ht
    have hl := h.len
    have hn : n ≤ 60 := by rw [← hl]; exact t2
    have hn1 : 1 ≤ n := by rw [← hl]; exact t1
    have HI := Lib.hid (shL_in t3)
    have HT := Lib.hid t3
    have HC := Lib.hid (l03Short_any A n cap zs w h   hn1 (by omega) (trm_in2 ht))
    clear t1 t2 t3
    cases hs : shB zs
    · have hsh : shL zs = zs := if_neg (by simp [hs])
      rw [hsh, hl] at HC
      obtain ⟨z, hz⟩ : ∃ z, zs[n - 1]? = some z := ⟨_, List.getElem?_eq_getElem (by omega)⟩
      obtain ⟨b1, b2⟩ := HT.out z (List.mem_of_getElem? hz)
      have hot : otL zs = zs.set (n - 1) (z - 1) ++ [1] := by
        unfold otL
        rw [if_neg (by simp [hs]), hl, List.getD_eq_getElem?_getD, hz]; rfl
      have hrg : ∀ x ∈ zs.set (n - 1) (z - 1) ++ [1], Rng x := by
        intro x hx
        rw [List.mem_append] at hx
        rcases hx with hx | hx
        · rcases List.mem_or_eq_of_mem_set hx with h1 | h1
          · have := HT.out x h1; unfold Rng; omega
          · unfold Rng; omega
        · simp at hx; subst hx; unfold Rng; omega
      have hlen : (zs.set (n - 1) (z - 1) ++ [1]).length = n + 1 := by simp [hl]
      unfold otfL otfC
      rw [hot, ht]
      have HZ := Lib.hid hz
      have HR := Lib.hid hrg
      have HL := Lib.hid hlen
      obtain ⟨i0, hi, hz0, hz1, hz2⟩ := info_parts info_i64
      clear hz hrg hlen hot hl hs hsh HI
      cases hv : trmB (zs.set (n - 1) (z - 1) ++ [1])
      all_goals
        go_enter Try.func21, Try.ntmps21
        go_wp2_with fail
        refine (l03Ok_any A n cap zs _ h  ).mono ?_
        rintro e w' ⟨rfl, rfl⟩
        rw [ht]
        go_wp2_with fail
        refine HC.out.mono ?_
        rintro e w1 ⟨⟨B, c, rfl, ho⟩, hb1⟩
        obtain ⟨g, rfl, hg1, hg2⟩ := own_some ho (by omega)
        have hcell := own_cellI ho HZ.out
        have hfr := ho.frozenAt (n - 1)
        have HS := Lib.hid (own_setI ho (n - 1) (z - 1))
        have hb2 : Below w.heap.size w (w1.setCell ⟨g, n - 1, none⟩ (.int .i64 (z - 1))) := hb1.setCell (p := ⟨g, n - 1, none⟩) hg1 _
        have hs1 : w.heap.size ≤ w1.heap.size := hb1.size
        clear ho hb1
        go_wp2_with (first | (at_builtin; refine wpList_append_lies _ rfl (.tmp 24) (.tmp 25) 37 rfl w.heap.size 2 i0 (.int .i64 0) 1 8 Try.underlying37 hi hz0 hz1 hz2 rfl (by decide) _ n ((zs.set (n - 1) (z - 1)).map (Value.int .i64)) (by rfl) (HS.out.alloc _) ⟨w1.heap.size, 0, none⟩ 1 1 [.int .i64 1] (by rfl) rfl ?cells (by simp [Value.oneCell']) (by decide) (by show n + 1 ≤ 9223372036854775807; omega) (by omega) (by simp; omega) (w1.heap.size + 1) (by simp) ?_; rotate_left; intro g cap1 wn hown1 hgrow hat hlt1))
        case cells => exact fun j u hu => newcell (by simp) hu
        have hb3 : Below w.heap.size w wn := (hb2.alloc (by simp; omega) _).grown hgrow (by simp; omega) (fun k hk => by simp [Value.ownBlock] at hk; omega)
        rw [← List.map_singleton (f := Value.int .i64), ← List.map_append] at hown1
        go_wp2_with fail
        refine (l03Ok_any _ (n + 1) _ (zs.set (n - 1) (z - 1) ++ [1]) _ (IRow.of_own hown1 (by omega) HR.out)  ).mono ?_
        rintro e w' ⟨rfl, rfl⟩
        have HO := Lib.hid hown1
        clear hown1
        rw [hv]
        go_wp2_with fail
        go_ret2
        simp only [Bool.false_eq_true, and_true, and_false, true_and, if_true, if_false, HL.out]
        first | exact ⟨⟨none, 0, rfl, World.ownsRow_nil ..⟩, hb3⟩ | (unfold ResI; rw [HL.out]; exact ⟨⟨_, _, rfl, HO.out⟩, hb3⟩)
    · have hot : otL zs = shL zs := if_pos hs
      have hlt : (shL zs).length < n := by
        unfold shL
        rw [if_pos hs, List.length_set, List.length_take]
        omega
      unfold otfL otfC
      rw [hot, ht]
      generalize shL zs = ys at *
      obtain ⟨N, hN⟩ : ∃ N, N = ys.length := ⟨_, rfl⟩
      rw [← hN] at HC hlt
      have HN := Lib.hid hN
      have hne : ((N : Int) == (n : Int)) = false := by rw [beq_eq_false_iff_ne]; omega
      clear hN hot hs hl
      cases hv : trmB ys
      all_goals
        go_enter Try.func21, Try.ntmps21
        go_wp2_with fail
        refine (l03Ok_any A n cap zs _ h  ).mono ?_
        rintro e w' ⟨rfl, rfl⟩
        rw [ht]
        go_wp2_with fail
        refine HC.out.mono ?_
        rintro e w1 ⟨⟨B, c, rfl, ho⟩, hb1⟩
        go_wp2_with fail
        refine (l03Ok_any B N c ys _ (IRow.of_own ho (by omega) HI.out)  ).mono ?_
        rintro e w' ⟨rfl, rfl⟩
        have HO := Lib.hid ho
        clear ho
        rw [hv]
        go_wp2_with fail
        go_ret2
        simp only [Bool.false_eq_true, and_true, and_false, true_and, if_true, if_false]
        first | exact ⟨⟨none, 0, rfl, World.ownsRow_nil ..⟩, hb1⟩ | (unfold ResI; rw [← HN.out]; exact ⟨⟨_, _, rfl, HO.out⟩, hb1⟩)
end Go.Proofs.Ytjkonkoiofhefaa
