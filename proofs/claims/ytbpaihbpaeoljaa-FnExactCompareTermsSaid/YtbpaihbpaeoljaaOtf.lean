/-
  The other form of terms: contracts of the exported functions; the walk of the law FnExactOtherForm.
  No condition but those of the law's own text.
-/
import Derived.Test.YtbpaihbpaeoljaaProg
import Derived.Test.YtbpaihbpaeoljaaMem
import Derived.Test.YtbpaihbpaeoljaaBasic
import Derived.Test.YtbpaihbpaeoljaaAllk
import Derived.Test.YtbpaihbpaeoljaaInts
import Derived.Test.YtbpaihbpaeoljaaTerms
import Derived.Test.YtbpaihbpaeoljaaMarks
import Derived.Test.YtbpaihbpaeoljaaOwn
import Derived.Test.YtbpaihbpaeoljaaShort
import Derived.Test.YtbpaihbpaeoljaaCvgL
import Derived.Handy
import Derived.BigQuiet
import Derived.Deep.QuietTactic
import Derived.Deep.AppendLies
namespace Go.Proofs.Ytbpaihbpaeoljaa
open Go.RowKit
set_option linter.unusedVariables false
set_option linter.unusedSimpArgs false
attribute [local go_sem ↓] Go.wp_at_zero Go.wp_at_succ

/-- The other terms with the same value. -/
def otL (zs : List Int) : List Int := if shB zs = true then shL zs else zs.set (zs.length - 1) (zs.getD (zs.length - 1) 0 - 1) ++ [1]
def otfL (zs : List Int) : List Int := if trmB zs = true ∧ trmB (otL zs) = true then otL zs else []
def otfC (zs : List Int) : Int := if trmB zs = true then (if trmB (otL zs) = true then 0 else 5) else 1
theorem otL_len (zs : List Int) : (otL zs).length ≤ zs.length + 1 := by
  unfold otL
  split
  · have := shL_len zs; omega
  · simp
theorem otfL_len (zs : List Int) : (otfL zs).length ≤ zs.length + 1 := by
  unfold otfL
  split
  · exact otL_len zs
  · simp
theorem otfL_rng (zs : List Int) : ∀ z ∈ otfL zs, Rng z := by
  unfold otfL
  split
  · rename_i h
    intro z hz
    have := (trm_in h.2).2.2 z hz
    unfold Rng; omega
  · intro z hz; cases hz
theorem shL_in {zs : List Int} (h : ∀ z ∈ zs, -1000000000 ≤ z ∧ z ≤ 1000000000) : ∀ z ∈ shL zs, Rng z := by
  intro z hz
  unfold shL at hz
  split at hz
  · rcases List.mem_or_eq_of_mem_set hz with h1 | h1
    · have := h z (List.mem_of_mem_take h1); unfold Rng; omega
    · have : -1000000000 ≤ zs.getD (zs.length - 2) 0 ∧ zs.getD (zs.length - 2) 0 ≤ 1000000000 := by
        rw [List.getD_eq_getElem?_getD]
        cases hc : zs[zs.length - 2]? with
        | none => simp
        | some y => exact h y (List.mem_of_getElem? hc)
      unfold Rng; omega
  · have := h z hz; unfold Rng; omega

set_option maxHeartbeats 1600000 in
theorem implOtf_any (A : Option Addr) (n cap : Nat) (zs : List Int) (w : World) (h : IRow w A n zs) (hcap : n ≤ cap) :
    Calls Try.prog 23 #[.slice A n cap] w fun e w' => ResI w.heap.size (otfL zs) (otfC zs) e w' ∧ Below w.heap.size w w' := by
  cases ht : trmB zs
  · rw [show otfL zs = [] from if_neg (by simp [ht]), show otfC zs = 1 from if_neg (by simp [ht])]
    go_enter Try.func23, Try.ntmps23
    go_wp2_with fail
    refine (validTerms_any A n cap zs _ h hcap).mono ?_
    rintro e w' ⟨rfl, rfl⟩
    go_wp2_with fail
    go_ret2
    exact ⟨⟨none, 0, rfl, World.ownsRow_nil ..⟩, Below.refl _ _⟩
  · obtain ⟨t1, t2, t3⟩ := trm_in ht
    have hl := h.len
    have hn : n ≤ 60 := by rw [← hl]; exact t2
    have hn1 : 1 ≤ n := by rw [← hl]; exact t1
    have HI := Lib.hid (shL_in t3)
    have HT := Lib.hid t3
    have HC := Lib.hid (shortForm_any A n cap zs w h hcap hn1 (by omega) (trm_in2 ht))
    clear t1 t2 t3
    cases hs : shB zs
    · have hsh : shL zs = zs := if_neg (by simp [hs])
      rw [hsh, hl] at HC
      obtain ⟨z, hz⟩ : ∃ z, zs[n - 1]? = some z := ⟨_, List.getElem?_eq_getElem (by omega)⟩
      obtain ⟨b1, b2⟩ := HT.out z (List.mem_of_getElem? hz)
      have hot : otL zs = zs.set (n - 1) (z - 1) ++ [1] := by
        unfold otL
        rw [if_neg (by simp [hs]), hl, List.getD_eq_getElem?_getD, hz]; rfl
      have hrg : ∀ x ∈ zs.set (n - 1) (z - 1) ++ [1], Rng x := by
        intro x hx
        rw [List.mem_append] at hx
        rcases hx with hx | hx
        · rcases List.mem_or_eq_of_mem_set hx with h1 | h1
          · have := HT.out x h1; unfold Rng; omega
          · unfold Rng; omega
        · simp at hx; subst hx; unfold Rng; omega
      have hlen : (zs.set (n - 1) (z - 1) ++ [1]).length = n + 1 := by simp [hl]
      unfold otfL otfC
      rw [hot, ht]
      have HZ := Lib.hid hz
      have HR := Lib.hid hrg
      have HL := Lib.hid hlen
      obtain ⟨i0, hi, hz0, hz1, hz2⟩ := info_parts info_i64
      clear hz hrg hlen hot hl hs hsh HI
      cases hv : trmB (zs.set (n - 1) (z - 1) ++ [1])
      all_goals
        go_enter Try.func23, Try.ntmps23
        go_wp2_with fail
        refine (validTerms_any A n cap zs _ h hcap).mono ?_
        rintro e w' ⟨rfl, rfl⟩
        rw [ht]
        go_wp2_with fail
        refine HC.out.mono ?_
        rintro e w1 ⟨⟨B, c, rfl, ho⟩, hb1⟩
        obtain ⟨g, rfl, hg1, hg2⟩ := own_some ho (by omega)
        have hcell := own_cellI ho HZ.out
        have hfr := ho.frozenAt (n - 1)
        have HS := Lib.hid (own_setI ho (n - 1) (z - 1))
        have hb2 : Below w.heap.size w (w1.setCell ⟨g, n - 1, none⟩ (.int .i64 (z - 1))) := hb1.setCell (p := ⟨g, n - 1, none⟩) hg1 _
        have hs1 : w.heap.size ≤ w1.heap.size := hb1.size
        clear ho hb1
        go_wp2_with (first | (at_builtin; refine wpList_append_lies _ rfl (.tmp 23) (.tmp 24) 24 rfl w.heap.size 2 i0 (.int .i64 0) 1 8 Try.underlying24 hi hz0 hz1 hz2 rfl (by decide) _ n ((zs.set (n - 1) (z - 1)).map (Value.int .i64)) (by rfl) (HS.out.alloc _) ⟨w1.heap.size, 0, none⟩ 1 1 [.int .i64 1] (by rfl) rfl ?cells (by simp [Value.oneCell']) (by decide) (by show n + 1 ≤ 9223372036854775807; omega) (by omega) (by simp; omega) (w1.heap.size + 1) (by simp) ?_; rotate_left; intro g cap1 wn hown1 hgrow hat hlt1))
        case cells => exact fun j u hu => newcell (by simp) hu
        have hb3 : Below w.heap.size w wn := (hb2.alloc (by simp; omega) _).grown hgrow (by simp; omega) (fun k hk => by simp [Value.ownBlock] at hk; omega)
        rw [← List.map_singleton (f := Value.int .i64), ← List.map_append] at hown1
        go_wp2_with fail
        refine (validTerms_any _ (n + 1) _ (zs.set (n - 1) (z - 1) ++ [1]) _ (IRow.of_own hown1 (by omega) HR.out) (own_cap hown1)).mono ?_
        rintro e w' ⟨rfl, rfl⟩
        have HO := Lib.hid hown1
        clear hown1
        rw [hv]
        go_wp2_with fail
        go_ret2
        simp only [Bool.false_eq_true, and_true, and_false, true_and, if_true, if_false, HL.out]
        first | exact ⟨⟨none, 0, rfl, World.ownsRow_nil ..⟩, hb3⟩ | (unfold ResI; rw [HL.out]; exact ⟨⟨_, _, rfl, HO.out⟩, hb3⟩)
    · have hot : otL zs = shL zs := if_pos hs
      have hlt : (shL zs).length < n := by
        unfold shL
        rw [if_pos hs, List.length_set, List.length_take]
        omega
      unfold otfL otfC
      rw [hot, ht]
      generalize shL zs = ys at *
      obtain ⟨N, hN⟩ : ∃ N, N = ys.length := ⟨_, rfl⟩
      rw [← hN] at HC hlt
      have HN := Lib.hid hN
      have hne : ((N : Int) == (n : Int)) = false := by rw [beq_eq_false_iff_ne]; omega
      clear hN hot hs hl
      cases hv : trmB ys
      all_goals
        go_enter Try.func23, Try.ntmps23
        go_wp2_with fail
        refine (validTerms_any A n cap zs _ h hcap).mono ?_
        rintro e w' ⟨rfl, rfl⟩
        rw [ht]
        go_wp2_with fail
        refine HC.out.mono ?_
        rintro e w1 ⟨⟨B, c, rfl, ho⟩, hb1⟩
        go_wp2_with fail
        refine (validTerms_any B N c ys _ (IRow.of_own ho (by omega) HI.out) (own_cap ho)).mono ?_
        rintro e w' ⟨rfl, rfl⟩
        have HO := Lib.hid ho
        clear ho
        rw [hv]
        go_wp2_with fail
        go_ret2
        simp only [Bool.false_eq_true, and_true, and_false, true_and, if_true, if_false]
        first | exact ⟨⟨none, 0, rfl, World.ownsRow_nil ..⟩, hb1⟩ | (unfold ResI; rw [← HN.out]; exact ⟨⟨_, _, rfl, HO.out⟩, hb1⟩)
set_option maxHeartbeats 1600000 in
theorem specOtf_any (A : Option Addr) (n cap : Nat) (zs : List Int) (w : World) (h : IRow w A n zs) (hcap : n ≤ cap) :
    Calls Try.prog 21 #[.slice A n cap] w fun e w' => ResI w.heap.size (otfL zs) (otfC zs) e w' ∧ Below w.heap.size w w' := by
  cases ht : trmB zs
  · rw [show otfL zs = [] from if_neg (by simp [ht]), show otfC zs = 1 from if_neg (by simp [ht])]
    go_enter Try.func21, Try.ntmps21
    go_wp2_with fail
    refine (l03Ok_any A n cap zs _ h  ).mono ?_
    rintro e w' ⟨rfl, rfl⟩
    go_wp2_with fail
    go_ret2
    exact ⟨⟨none, 0, rfl, World.ownsRow_nil ..⟩, Below.refl _ _⟩
  · obtain ⟨t1, t2, t3⟩ := trm_in ht
    have hl := h.len
    have hn : n ≤ 60 := by rw [← hl]; exact t2
    have hn1 : 1 ≤ n := by rw [← hl]; exact t1
    have HI := Lib.hid (shL_in t3)
    have HT := Lib.hid t3
    have HC := Lib.hid (l03Short_any A n cap zs w h   hn1 (by omega) (trm_in2 ht))
    clear t1 t2 t3
    cases hs : shB zs
    · have hsh : shL zs = zs := if_neg (by simp [hs])
      rw [hsh, hl] at HC
      obtain ⟨z, hz⟩ : ∃ z, zs[n - 1]? = some z := ⟨_, List.getElem?_eq_getElem (by omega)⟩
      obtain ⟨b1, b2⟩ := HT.out z (List.mem_of_getElem? hz)
      have hot : otL zs = zs.set (n - 1) (z - 1) ++ [1] := by
        unfold otL
        rw [if_neg (by simp [hs]), hl, List.getD_eq_getElem?_getD, hz]; rfl
      have hrg : ∀ x ∈ zs.set (n - 1) (z - 1) ++ [1], Rng x := by
        intro x hx
        rw [List.mem_append] at hx
        rcases hx with hx | hx
        · rcases List.mem_or_eq_of_mem_set hx with h1 | h1
          · have := HT.out x h1; unfold Rng; omega
          · unfold Rng; omega
        · simp at hx; subst hx; unfold Rng; omega
      have hlen : (zs.set (n - 1) (z - 1) ++ [1]).length = n + 1 := by simp [hl]
      unfold otfL otfC
      rw [hot, ht]
      have HZ := Lib.hid hz
      have HR := Lib.hid hrg
      have HL := Lib.hid hlen
      obtain ⟨i0, hi, hz0, hz1, hz2⟩ := info_parts info_i64
      clear hz hrg hlen hot hl hs hsh HI
      cases hv : trmB (zs.set (n - 1) (z - 1) ++ [1])
      all_goals
        go_enter Try.func21, Try.ntmps21
        go_wp2_with fail
        refine (l03Ok_any A n cap zs _ h  ).mono ?_
        rintro e w' ⟨rfl, rfl⟩
        rw [ht]
        go_wp2_with fail
        refine HC.out.mono ?_
        rintro e w1 ⟨⟨B, c, rfl, ho⟩, hb1⟩
        obtain ⟨g, rfl, hg1, hg2⟩ := own_some ho (by omega)
        have hcell := own_cellI ho HZ.out
        have hfr := ho.frozenAt (n - 1)
        have HS := Lib.hid (own_setI ho (n - 1) (z - 1))
        have hb2 : Below w.heap.size w (w1.setCell ⟨g, n - 1, none⟩ (.int .i64 (z - 1))) := hb1.setCell (p := ⟨g, n - 1, none⟩) hg1 _
        have hs1 : w.heap.size ≤ w1.heap.size := hb1.size
        clear ho hb1
        go_wp2_with (first | (at_builtin; refine wpList_append_lies _ rfl (.tmp 24) (.tmp 25) 24 rfl w.heap.size 2 i0 (.int .i64 0) 1 8 Try.underlying24 hi hz0 hz1 hz2 rfl (by decide) _ n ((zs.set (n - 1) (z - 1)).map (Value.int .i64)) (by rfl) (HS.out.alloc _) ⟨w1.heap.size, 0, none⟩ 1 1 [.int .i64 1] (by rfl) rfl ?cells (by simp [Value.oneCell']) (by decide) (by show n + 1 ≤ 9223372036854775807; omega) (by omega) (by simp; omega) (w1.heap.size + 1) (by simp) ?_; rotate_left; intro g cap1 wn hown1 hgrow hat hlt1))
        case cells => exact fun j u hu => newcell (by simp) hu
        have hb3 : Below w.heap.size w wn := (hb2.alloc (by simp; omega) _).grown hgrow (by simp; omega) (fun k hk => by simp [Value.ownBlock] at hk; omega)
        rw [← List.map_singleton (f := Value.int .i64), ← List.map_append] at hown1
        go_wp2_with fail
        refine (l03Ok_any _ (n + 1) _ (zs.set (n - 1) (z - 1) ++ [1]) _ (IRow.of_own hown1 (by omega) HR.out)  ).mono ?_
        rintro e w' ⟨rfl, rfl⟩
        have HO := Lib.hid hown1
        clear hown1
        rw [hv]
        go_wp2_with fail
        go_ret2
        simp only [Bool.false_eq_true, and_true, and_false, true_and, if_true, if_false, HL.out]
        first | exact ⟨⟨none, 0, rfl, World.ownsRow_nil ..⟩, hb3⟩ | (unfold ResI; rw [HL.out]; exact ⟨⟨_, _, rfl, HO.out⟩, hb3⟩)
    · have hot : otL zs = shL zs := if_pos hs
      have hlt : (shL zs).length < n := by
        unfold shL
        rw [if_pos hs, List.length_set, List.length_take]
        omega
      unfold otfL otfC
      rw [hot, ht]
      generalize shL zs = ys at *
      obtain ⟨N, hN⟩ : ∃ N, N = ys.length := ⟨_, rfl⟩
      rw [← hN] at HC hlt
      have HN := Lib.hid hN
      have hne : ((N : Int) == (n : Int)) = false := by rw [beq_eq_false_iff_ne]; omega
      clear hN hot hs hl
      cases hv : trmB ys
      all_goals
        go_enter Try.func21, Try.ntmps21
        go_wp2_with fail
        refine (l03Ok_any A n cap zs _ h  ).mono ?_
        rintro e w' ⟨rfl, rfl⟩
        rw [ht]
        go_wp2_with fail
        refine HC.out.mono ?_
        rintro e w1 ⟨⟨B, c, rfl, ho⟩, hb1⟩
        go_wp2_with fail
        refine (l03Ok_any B N c ys _ (IRow.of_own ho (by omega) HI.out)  ).mono ?_
        rintro e w' ⟨rfl, rfl⟩
        have HO := Lib.hid ho
        clear ho
        rw [hv]
        go_wp2_with fail
        go_ret2
        simp only [Bool.false_eq_true, and_true, and_false, true_and, if_true, if_false]
        first | exact ⟨⟨none, 0, rfl, World.ownsRow_nil ..⟩, hb1⟩ | (unfold ResI; rw [← HN.out]; exact ⟨⟨_, _, rfl, HO.out⟩, hb1⟩)
set_option maxHeartbeats 3200000 in
theorem fnExactOtherForm_walk (w : World) (A : Option Addr) (n cap : Nat) (zs : List Int) (h : IRow w A n zs) :
    Calls Try.prog 4 #[.slice A n cap] w fun e w' => e = .returned (.bool true) ∧ Below w.heap.size w w' := by
  by_cases hn : (1048576 : Int) < n
  · go_enter Try.func4, Try.ntmps4
    go_wp2
    go_ret
    exact ⟨rfl, Below.refl _ _⟩
  · have Hr := Lib.hid h.2.2.1
    have hn0 : n ≤ 1048576 := by omega
    have Hh := Lib.hid h
    obtain ⟨N, zs0, k, hN, hrg, HS, HI⟩ : ∃ (N : Nat) (zs0 : List Int) (k : Int), N ≤ 1048577 ∧ (∀ z ∈ zs0, Rng z) ∧ Hid (∀ (A : Option Addr) (cap : Nat) (w : World), IRow w A n zs → n ≤ cap → Calls Try.prog 21 #[.slice A n cap] w fun e w' => (∃ B c, e = .returned (.tuple #[.slice B N c, .int .i64 k]) ∧ w'.ownsRow w.heap.size 2 1 (.slice B N c) N (zs0.map (Value.int .i64))) ∧ Below w.heap.size w w') ∧ Hid (∀ (A : Option Addr) (cap : Nat) (w : World), IRow w A n zs → n ≤ cap → Calls Try.prog 23 #[.slice A n cap] w fun e w' => (∃ B c, e = .returned (.tuple #[.slice B N c, .int .i64 k]) ∧ w'.ownsRow w.heap.size 2 1 (.slice B N c) N (zs0.map (Value.int .i64))) ∧ Below w.heap.size w w') :=
      ⟨(otfL zs).length, otfL zs, otfC zs, (by have := otfL_len zs; have := Hh.out.len; omega), (otfL_rng zs), fun A cap w h hc => specOtf_any A n cap zs w h hc, fun A cap w h hc => implOtf_any A n cap zs w h hc⟩
    have HR := Lib.hid hrg
    clear hrg h
    go_enter Try.func4, Try.ntmps4
    go_wp2_with fail
    refine (toInt64S_any A n cap zs _ Hh.out (by omega)).mono ?_
    rintro e w1 ⟨A1, c1, rfl, oXA, hd1⟩
    have hb1 : Below w.heap.size w w1 := hd1
    have hs1 : w.heap.size ≤ w1.heap.size := hd1.size
    clear hd1
    have XA_1 := Lib.hid oXA
    have XA_b := Lib.hid oXA
    clear oXA
    go_wp2_with fail
    refine (HS.out A1 c1 _ (IRow.of_own XA_1.out (by omega) Hr.out) (own_cap XA_1.out)).mono ?_
    rintro e w2 ⟨⟨A0, c0, rfl, oW⟩, hd2⟩
    have hb2 : Below w.heap.size w w2 := hb1.trans (hd2.mono hb1.size)
    have hs2 : w1.heap.size ≤ w2.heap.size := hd2.size
    have XA_2 := Lib.hid (own_below XA_1.out hd2)
    clear hd2 hb1
    have W_2 := Lib.hid oW
    have W_b := Lib.hid oW
    clear oW
    go_wp2_with fail
    refine (toInt64S_any A n cap zs _ (Hh.out.below hb2) (by omega)).mono ?_
    rintro e w3 ⟨A2, c2, rfl, oX, hd3⟩
    have hb3 : Below w.heap.size w w3 := hb2.trans (hd3.mono hb2.size)
    have hs3 : w2.heap.size ≤ w3.heap.size := hd3.size
    have XA_3 := Lib.hid (own_below XA_2.out hd3)
    have W_3 := Lib.hid (own_below W_2.out hd3)
    clear hd3 hb2
    have X_3 := Lib.hid oX
    have X_b := Lib.hid oX
    clear oX
    go_wp2_with fail
    refine (HI.out A2 c2 _ (IRow.of_own X_3.out (by omega) Hr.out) (own_cap X_3.out)).mono ?_
    rintro e w4 ⟨⟨A3, c3, rfl, oG⟩, hd4⟩
    have hb4 : Below w.heap.size w w4 := hb3.trans (hd4.mono hb3.size)
    have hs4 : w3.heap.size ≤ w4.heap.size := hd4.size
    have XA_4 := Lib.hid (own_below XA_3.out hd4)
    have W_4 := Lib.hid (own_below W_3.out hd4)
    have X_4 := Lib.hid (own_below X_3.out hd4)
    clear hd4 hb3
    have G_4 := Lib.hid oG
    have G_b := Lib.hid oG
    clear oG
    go_wp2_with fail
    refine (eqInt64S_same A3 N c3 A0 c0 zs0 _ (IRow.of_own G_4.out (by omega) HR.out) (IRow.of_own W_4.out (by omega) HR.out)).mono ?_
    rintro e w5 ⟨rfl, hd5⟩
    have hb5 : Below w.heap.size w w5 := hb4.trans (hd5.mono hb4.size)
    have hs5 : w4.heap.size ≤ w5.heap.size := hd5.size
    have XA_5 := Lib.hid (own_below XA_4.out hd5)
    have W_5 := Lib.hid (own_below W_4.out hd5)
    have X_5 := Lib.hid (own_below X_4.out hd5)
    have G_5 := Lib.hid (own_below G_4.out hd5)
    clear hd5 hb4
    go_wp2_with fail
    refine (toInt64S_any A n cap zs _ (Hh.out.below hb5) (by omega)).mono ?_
    rintro e w6 ⟨A4, c4, rfl, oY, hd6⟩
    have hb6 : Below w.heap.size w w6 := hb5.trans (hd6.mono hb5.size)
    have hs6 : w5.heap.size ≤ w6.heap.size := hd6.size
    have XA_6 := Lib.hid (own_below XA_5.out hd6)
    have W_6 := Lib.hid (own_below W_5.out hd6)
    have X_6 := Lib.hid (own_below X_5.out hd6)
    have G_6 := Lib.hid (own_below G_5.out hd6)
    clear hd6 hb5
    have Y_6 := Lib.hid oY
    have Y_b := Lib.hid oY
    clear oY
    go_wp2_with fail
    refine (eqInt64S_same A2 n c2 A4 c4 zs _ (IRow.of_own X_6.out (by omega) Hr.out) (IRow.of_own Y_6.out (by omega) Hr.out)).mono ?_
    rintro e w7 ⟨rfl, hd7⟩
    have hb7 : Below w.heap.size w w7 := hb6.trans (hd7.mono hb6.size)
    have hs7 : w6.heap.size ≤ w7.heap.size := hd7.size
    have XA_7 := Lib.hid (own_below XA_6.out hd7)
    have W_7 := Lib.hid (own_below W_6.out hd7)
    have X_7 := Lib.hid (own_below X_6.out hd7)
    have G_7 := Lib.hid (own_below G_6.out hd7)
    have Y_7 := Lib.hid (own_below Y_6.out hd7)
    clear hd7 hb6
    go_wp2_with fail
    refine (markI_any A2 n c2 _ (zs.map (Value.int .i64)) 1 _ X_7.out (by omega) (by omega) (by omega)).mono ?_
    rintro e w8 ⟨rfl, ho8, hg8⟩
    have hb8 : Below w.heap.size w w8 := hb7.grown hg8 hb7.size (fun k hk => Nat.le_trans (by omega) (X_7.out.lt k hk).1)
    have hs8 : w7.heap.size ≤ w8.heap.size := hg8.size
    have W_8 := Lib.hid (W_7.out.kept hg8 (by cases h0 : (Value.slice A0 N c0).ownBlock with | none => exact Or.inl rfl | some j => exact Or.inr (fun e => by have a := (W_b.out.lt j h0).2; have b := (X_b.out.lt j e.symm).1; omega)))
    have G_8 := Lib.hid (G_7.out.kept hg8 (by cases h0 : (Value.slice A3 N c3).ownBlock with | none => exact Or.inl rfl | some j => exact Or.inr (fun e => by have a := (G_b.out.lt j h0).1; have b := (X_b.out.lt j e.symm).2; omega)))
    have X_8 := Lib.hid ho8
    clear hb7 hg8 ho8
    go_wp2_with fail
    refine (eqInt64S_same A3 N c3 A0 c0 zs0 _ (IRow.of_own G_8.out (by omega) HR.out) (IRow.of_own W_8.out (by omega) HR.out)).mono ?_
    rintro e w9 ⟨rfl, hd9⟩
    have hb9 : Below w.heap.size w w9 := hb8.trans (hd9.mono hb8.size)
    have hs9 : w8.heap.size ≤ w9.heap.size := hd9.size
    have W_9 := Lib.hid (own_below W_8.out hd9)
    have X_9 := Lib.hid (own_below X_8.out hd9)
    have G_9 := Lib.hid (own_below G_8.out hd9)
    clear hd9 hb8
    go_wp2_with fail
    refine (markI_any A3 N c3 _ (zs0.map (Value.int .i64)) 1 _ G_9.out (by omega) (by omega) (by omega)).mono ?_
    rintro e w10 ⟨rfl, ho10, hg10⟩
    have hb10 : Below w.heap.size w w10 := hb9.grown hg10 hb9.size (fun k hk => Nat.le_trans (by omega) (G_9.out.lt k hk).1)
    have hs10 : w9.heap.size ≤ w10.heap.size := hg10.size
    have W_10 := Lib.hid (W_9.out.kept hg10 (by cases h0 : (Value.slice A0 N c0).ownBlock with | none => exact Or.inl rfl | some j => exact Or.inr (fun e => by have a := (W_b.out.lt j h0).2; have b := (G_b.out.lt j e.symm).1; omega)))
    have G_10 := Lib.hid ho10
    clear hb9 hg10 ho10
    go_wp2_with fail
    refine (heldI_any A3 N c3 1 _ (IRow.of_own G_10.out (by omega) (rng_mkI N (by omega))) (by omega) (by omega) (by omega)).mono ?_
    rintro e w' ⟨rfl, rfl⟩
    go_wp2_with fail
    refine (toInt64S_any A n cap zs _ (Hh.out.below hb10) (by omega)).mono ?_
    rintro e w11 ⟨A5, c5, rfl, oZ, hd11⟩
    have hb11 : Below w.heap.size w w11 := hb10.trans (hd11.mono hb10.size)
    have hs11 : w10.heap.size ≤ w11.heap.size := hd11.size
    have W_11 := Lib.hid (own_below W_10.out hd11)
    have G_11 := Lib.hid (own_below G_10.out hd11)
    clear hd11 hb10
    have Z_11 := Lib.hid oZ
    have Z_b := Lib.hid oZ
    clear oZ
    go_wp2_with fail
    refine (HI.out A5 c5 _ (IRow.of_own Z_11.out (by omega) Hr.out) (own_cap Z_11.out)).mono ?_
    rintro e w12 ⟨⟨A6, c6, rfl, oH⟩, hd12⟩
    have hb12 : Below w.heap.size w w12 := hb11.trans (hd12.mono hb11.size)
    have hs12 : w11.heap.size ≤ w12.heap.size := hd12.size
    have W_12 := Lib.hid (own_below W_11.out hd12)
    have G_12 := Lib.hid (own_below G_11.out hd12)
    have Z_12 := Lib.hid (own_below Z_11.out hd12)
    clear hd12 hb11
    have H_12 := Lib.hid oH
    have H_b := Lib.hid oH
    clear oH
    go_wp2_with fail
    refine (eqInt64S_same A6 N c6 A0 c0 zs0 _ (IRow.of_own H_12.out (by omega) HR.out) (IRow.of_own W_12.out (by omega) HR.out)).mono ?_
    rintro e w13 ⟨rfl, hd13⟩
    have hb13 : Below w.heap.size w w13 := hb12.trans (hd13.mono hb12.size)
    have hs13 : w12.heap.size ≤ w13.heap.size := hd13.size
    have W_13 := Lib.hid (own_below W_12.out hd13)
    have G_13 := Lib.hid (own_below G_12.out hd13)
    have H_13 := Lib.hid (own_below H_12.out hd13)
    clear hd13 hb12
    go_wp2_with fail
    refine (heldI_any A3 N c3 1 _ (IRow.of_own G_13.out (by omega) (rng_mkI N (by omega))) (by omega) (by omega) (by omega)).mono ?_
    rintro e w' ⟨rfl, rfl⟩
    go_wp2_with fail
    go_ret
    exact ⟨rfl, hb13⟩
end Go.Proofs.Ytbpaihbpaeoljaa
