/-
  Copies of lists, and the short form of terms: contracts of the program's and of the reference's functions.
  The other form of terms: contracts of the exported functions; the walk of the law FnExactOtherForm.
  The reference's source of choices: contracts of its steps.
  Three drawn fractions: contract of the reference's A2Fractions.
  The bound on the bytes from which something is drawn: contracts.
  An argument that is a slice of bytes, opened.
  The texts of terms: plain laws.
  The text of a fraction: contracts of the program's and of the reference's functions; the walk of the law FnExactFractionText.
  The texts of terms: contracts of the program's and of the reference's functions; the walk of the law FnExactTermsText.
  Conditions: those of the law's own text, and that the package-level variables hold what the program's text lays in them.
-/
import Derived.Test.YtlpglibnjmjjkaaGreatDoorProg
import Derived.Test.YtlpglibnjmjjkaaGreatDoorE01
import Derived.Lib.SliceRun
import Derived.Handy
import Derived.BigQuiet
import Derived.Deep.QuietTactic
import Derived.Deep.AppendLies
import Derived.Test.YtlpglibnjmjjkaaGreatDoorE02
import Derived.RegionTactic
import Derived.BigRegion
import Derived.Deep.RegionHeld3
import Derived.Deep.DrawnRows
import Derived.Deep.DeepCutAuto
import Derived.Lib.Join
import Derived.Lib.ItoaLen
import Derived.Laws.Concat
import Derived.Test.YtlpglibnjmjjkaaGreatDoorShelf
namespace Go.Proofs.YtlpglibnjmjjkaaGreatDoor
open Go.RowKit
set_option linter.unusedVariables false
attribute [local go_sem ↓] Go.wp_at_zero Go.wp_at_succ

/-- A slice of n numbers, the call's own. -/
def RetN (base n : Nat) (zs : List Int) (e : Ending) (w : World) : Prop :=
  ∃ A c, e = .returned (.slice A n c) ∧ w.ownsRow base 2 1 (.slice A n c) n (zs.map (Value.int .i64))

set_option maxRecDepth 100000 in
set_option maxHeartbeats 800000 in
theorem clone_any (A : Option Addr) (n cap : Nat) (zs : List Int) (w : World) (h : IRow w A n zs) (hn : 1 ≤ n) (hn2 : n ≤ 1048576) :
    Calls Tryz.prog 90 #[.slice A n cap] w fun e w' => RetN w.heap.size n zs e w' ∧ Below w.heap.size w w' := by
  obtain ⟨i0, hi, hz0, hz1, hz2⟩ := info_parts info_i64
  have hq := fun (w : World) a n c => Lib.run_eql_slice_nil (P := Tryz.prog) w 28 2 a n c 0 0 Tryz.underlying28
  obtain ⟨ad, z, rfl, _⟩ := h.at_ (k := 0) (by omega)
  have hown0 : (w.alloc (.cells #[] 2)).ownsRow w.heap.size 2 1 (.slice (some ⟨w.heap.size, 0, none⟩) 0 0) 0 [] := World.ownsRow_made w #[] 0 (Nat.le_refl _) (by decide) rfl
  have HO := Lib.hid hown0
  have HL := Lib.hid h.len
  have HW := Lib.hid (h.alloc (.cells #[] 2))
  clear hown0 h
  go_enter Tryz.func90, Tryz.ntmps90
  go_wp2_with (first | (at_builtin; refine wpList_append_lies _ rfl (.tmp 5) (.tmp 6) 28 rfl w.heap.size 2 i0 (.int .i64 0) 1 8 Tryz.underlying28 hi hz0 hz1 hz2 rfl (by decide) _ 0 [] (by rfl) HO.out ad n cap (zs.map (Value.int .i64)) (by rfl) ?len ?cells ?one (by omega) (by show 0 + n ≤ 9223372036854775807; omega) (by omega) (by simp) (w.heap.size + 1) (by simp) ?_; rotate_left; rotate_left; rotate_left; intro g cap1 w1 hown1 hgrow hat hlt1))
  case len => rw [List.length_map, HL.out, Nat.mul_one]
  case cells =>
    intro j u hu
    obtain ⟨ad', e, hc⟩ := HW.out.2.2.2 j u hu
    injection e with e
    subst e
    exact hc
  case one =>
    intro u hu
    obtain ⟨_, _, rfl⟩ := List.mem_map.1 hu
    rfl
  go_ret
  simp only [Nat.zero_add, List.nil_append] at hown1
  exact ⟨⟨_, _, rfl, hown1⟩, ((Below.refl _ _).alloc (Nat.le_refl _) _).grown hgrow (by simp) (fun k hk => by simp [Value.ownBlock] at hk; omega)⟩

/-- The last of several terms is 1. -/
def shB (zs : List Int) : Bool := decide (1 < zs.length ∧ zs[zs.length - 1]? = some 1)
/-- Terms with the same value of which the last is not 1, unless it is the only one. -/
def shL (zs : List Int) : List Int := if shB zs = true then (zs.take (zs.length - 1)).set (zs.length - 2) (zs.getD (zs.length - 2) 0 + 1) else zs
theorem shL_f {zs : List Int} (h : ¬ (1 < zs.length ∧ zs[zs.length - 1]? = some 1)) : shL zs = zs := if_neg (by unfold shB; simpa using h)
theorem shL_t {zs : List Int} {n : Nat} {y : Int} (hl : zs.length = n) (hn : 2 ≤ n) (h : zs[n - 1]? = some 1) (hy : zs[n - 2]? = some y) : shL zs = (zs.take (n - 1)).set (n - 2) (y + 1) := by
  have e : zs.getD (n - 2) 0 = y := by rw [List.getD_eq_getElem?_getD, hy]; rfl
  unfold shL
  rw [if_pos (by unfold shB; rw [hl]; exact decide_eq_true ⟨by omega, h⟩), hl, e]
theorem shL_len (zs : List Int) : (shL zs).length ≤ zs.length := by
  unfold shL
  split
  · rw [List.length_set, List.length_take]; omega
  · exact Nat.le_refl _

theorem take_row {w : World} {A : Option Addr} {n : Nat} {zs : List Int} (h : IRow w A n zs) (k : Nat) (hk : k ≤ n) : IRow w A k (zs.take k) :=
  ⟨by rw [List.length_take, h.1]; omega, by have := h.2.1; omega, fun z hz => h.2.2.1 z (List.mem_of_mem_take hz), by have := h.2.2.2.take_ k; rwa [← List.map_take] at this⟩

set_option maxRecDepth 100000 in
set_option maxHeartbeats 1600000 in
theorem shortForm_any (A : Option Addr) (n cap : Nat) (zs : List Int) (w : World) (h : IRow w A n zs) (hcap : n ≤ cap) (hn : 1 ≤ n) (hn2 : n ≤ 1048576) (hzb : ∀ z ∈ zs, -2000000000 ≤ z ∧ z ≤ 2000000000) :
    Calls Tryz.prog 45 #[.slice A n cap] w fun e w' => RetN w.heap.size (shL zs).length (shL zs) e w' ∧ Below w.heap.size w w' := by
  have hl := h.len
  rcases (by omega : n = 1 ∨ 2 ≤ n) with h1 | h2
  · subst h1
    have HC := Lib.hid (clone_any A 1 cap zs w h (by omega) hn2)
    rw [shL_f (by rw [hl]; omega), hl]
    clear h hl
    go_enter Tryz.func45, Tryz.ntmps45
    go_wp2_with fail
    refine HC.out.mono ?_
    rintro e w1 ⟨⟨A', c', rfl, ho⟩, hb⟩
    have HO := Lib.hid ho
    clear ho HC
    go_wp2_with fail
    go_ret
    exact ⟨⟨_, _, rfl, HO.out⟩, hb⟩
  · obtain ⟨ad, z, rfl, hz, z1, z2, hc⟩ := h.at_ (k := n - 1) (by omega)
    by_cases hz1 : z = 1
    · subst hz1
      obtain ⟨ad', y, e, hy, y1, y2, hcy⟩ := h.at_ (k := n - 2) (by omega)
      injection e with e
      subst e
      obtain ⟨b1, b2⟩ := hzb y (List.mem_of_getElem? hy)
      have hty : (zs.take (n - 1))[n - 2]? = some y := by rw [List.getElem?_take, if_pos (by omega)]; exact hy
      have HC := Lib.hid (clone_any (some ad) (n - 1) cap (zs.take (n - 1)) w (take_row h (n - 1) (by omega)) (by omega) (by omega))
      have hlen : (shL zs).length = n - 1 := by rw [shL_t hl h2 hz hy, List.length_set, List.length_take, hl]; omega
      rw [hlen, shL_t hl h2 hz hy]
      have HY := Lib.hid hty
      clear h hl hz hy hty hcy hlen hzb
      go_enter Tryz.func45, Tryz.ntmps45
      go_wp2_with fail
      refine HC.out.mono ?_
      rintro e w1 ⟨⟨A', c', rfl, ho⟩, hb⟩
      obtain ⟨g, rfl, hg1, hg2⟩ := own_some ho (by omega)
      have hcell := own_cellI ho HY.out
      have hfr := ho.frozenAt (n - 2)
      have HS := Lib.hid (own_setI ho (n - 2) (y + 1))
      clear ho HC
      go_wp2_with fail
      go_ret
      exact ⟨⟨_, _, rfl, HS.out⟩, hb.setCell (p := ⟨g, n - 2, none⟩) hg1 _⟩
    · have HC := Lib.hid (clone_any (some ad) n cap zs w h (by omega) hn2)
      have hne : (z == 1) = false := by rw [beq_eq_false_iff_ne]; exact hz1
      rw [shL_f (by rintro ⟨_, e⟩; rw [hl, hz] at e; injection e with e; exact hz1 e), hl]
      clear h hl hz hz1 hzb
      go_enter Tryz.func45, Tryz.ntmps45
      go_wp2_with fail
      refine HC.out.mono ?_
      rintro e w1 ⟨⟨A', c', rfl, ho⟩, hb⟩
      have HO := Lib.hid ho
      clear ho HC
      go_wp2_with fail
      go_ret
      exact ⟨⟨_, _, rfl, HO.out⟩, hb⟩
end Go.Proofs.YtlpglibnjmjjkaaGreatDoor
namespace Go.Proofs.YtlpglibnjmjjkaaGreatDoor
open Go.RowKit
set_option linter.unusedVariables false
set_option linter.unusedSimpArgs false
attribute [local go_sem ↓] Go.wp_at_zero Go.wp_at_succ

/-- The other terms with the same value. -/
def otL (zs : List Int) : List Int := if shB zs = true then shL zs else zs.set (zs.length - 1) (zs.getD (zs.length - 1) 0 - 1) ++ [1]
def otfL (zs : List Int) : List Int := if trmB zs = true ∧ trmB (otL zs) = true then otL zs else []
def otfC (zs : List Int) : Int := if trmB zs = true then (if trmB (otL zs) = true then 0 else 5) else 1
theorem otL_len (zs : List Int) : (otL zs).length ≤ zs.length + 1 := by
  unfold otL
  split
  · have := shL_len zs; omega
  · simp
theorem otfL_len (zs : List Int) : (otfL zs).length ≤ zs.length + 1 := by
  unfold otfL
  split
  · exact otL_len zs
  · simp
theorem otfL_rng (zs : List Int) : ∀ z ∈ otfL zs, Rng z := by
  unfold otfL
  split
  · rename_i h
    intro z hz
    have := (trm_in h.2).2.2 z hz
    unfold Rng; omega
  · intro z hz; cases hz
theorem shL_in {zs : List Int} (h : ∀ z ∈ zs, -1000000000 ≤ z ∧ z ≤ 1000000000) : ∀ z ∈ shL zs, Rng z := by
  intro z hz
  unfold shL at hz
  split at hz
  · rcases List.mem_or_eq_of_mem_set hz with h1 | h1
    · have := h z (List.mem_of_mem_take h1); unfold Rng; omega
    · have : -1000000000 ≤ zs.getD (zs.length - 2) 0 ∧ zs.getD (zs.length - 2) 0 ≤ 1000000000 := by
        rw [List.getD_eq_getElem?_getD]
        cases hc : zs[zs.length - 2]? with
        | none => simp
        | some y => exact h y (List.mem_of_getElem? hc)
      unfold Rng; omega
  · have := h z hz; unfold Rng; omega

set_option maxRecDepth 100000 in
set_option maxHeartbeats 1600000 in
theorem implOtf_any (A : Option Addr) (n cap : Nat) (zs : List Int) (w : World) (h : IRow w A n zs) (hcap : n ≤ cap) :
    Calls Tryz.prog 10 #[.slice A n cap] w fun e w' => ResI w.heap.size (otfL zs) (otfC zs) e w' ∧ Below w.heap.size w w' := by
  cases ht : trmB zs
  · rw [show otfL zs = [] from if_neg (by simp [ht]), show otfC zs = 1 from if_neg (by simp [ht])]
    go_enter Tryz.func10, Tryz.ntmps10
    go_wp2_with fail
    refine (validTerms_any A n cap zs _ h hcap).mono ?_
    rintro e w' ⟨rfl, rfl⟩
    go_wp2_with fail
    go_ret2
    exact ⟨⟨none, 0, rfl, World.ownsRow_nil ..⟩, Below.refl _ _⟩
  · obtain ⟨t1, t2, t3⟩ := trm_in ht
    have hl := h.len
    have hn : n ≤ 60 := by rw [← hl]; exact t2
    have hn1 : 1 ≤ n := by rw [← hl]; exact t1
    have HI := Lib.hid (shL_in t3)
    have HT := Lib.hid t3
    have HC := Lib.hid (shortForm_any A n cap zs w h hcap hn1 (by omega) (trm_in2 ht))
    clear t1 t2 t3
    cases hs : shB zs
    · have hsh : shL zs = zs := if_neg (by simp [hs])
      rw [hsh, hl] at HC
      obtain ⟨z, hz⟩ : ∃ z, zs[n - 1]? = some z := ⟨_, List.getElem?_eq_getElem (by omega)⟩
      obtain ⟨b1, b2⟩ := HT.out z (List.mem_of_getElem? hz)
      have hot : otL zs = zs.set (n - 1) (z - 1) ++ [1] := by
        unfold otL
        rw [if_neg (by simp [hs]), hl, List.getD_eq_getElem?_getD, hz]; rfl
      have hrg : ∀ x ∈ zs.set (n - 1) (z - 1) ++ [1], Rng x := by
        intro x hx
        rw [List.mem_append] at hx
        rcases hx with hx | hx
        · rcases List.mem_or_eq_of_mem_set hx with h1 | h1
          · have := HT.out x h1; unfold Rng; omega
          · unfold Rng; omega
        · simp at hx; subst hx; unfold Rng; omega
      have hlen : (zs.set (n - 1) (z - 1) ++ [1]).length = n + 1 := by simp [hl]
      unfold otfL otfC
      rw [hot, ht]
      have HZ := Lib.hid hz
      have HR := Lib.hid hrg
      have HL := Lib.hid hlen
      obtain ⟨i0, hi, hz0, hz1, hz2⟩ := info_parts info_i64
      clear hz hrg hlen hot hl hs hsh HI
      cases hv : trmB (zs.set (n - 1) (z - 1) ++ [1])
      all_goals
        go_enter Tryz.func10, Tryz.ntmps10
        go_wp2_with fail
        refine (validTerms_any A n cap zs _ h hcap).mono ?_
        rintro e w' ⟨rfl, rfl⟩
        rw [ht]
        go_wp2_with fail
        refine HC.out.mono ?_
        rintro e w1 ⟨⟨B, c, rfl, ho⟩, hb1⟩
        obtain ⟨g, rfl, hg1, hg2⟩ := own_some ho (by omega)
        have hcell := own_cellI ho HZ.out
        have hfr := ho.frozenAt (n - 1)
        have HS := Lib.hid (own_setI ho (n - 1) (z - 1))
        have hb2 : Below w.heap.size w (w1.setCell ⟨g, n - 1, none⟩ (.int .i64 (z - 1))) := hb1.setCell (p := ⟨g, n - 1, none⟩) hg1 _
        have hs1 : w.heap.size ≤ w1.heap.size := hb1.size
        clear ho hb1
        go_wp2_with (first | (at_builtin; refine wpList_append_lies _ rfl (.tmp 23) (.tmp 24) 28 rfl w.heap.size 2 i0 (.int .i64 0) 1 8 Tryz.underlying28 hi hz0 hz1 hz2 rfl (by decide) _ n ((zs.set (n - 1) (z - 1)).map (Value.int .i64)) (by rfl) (HS.out.alloc _) ⟨w1.heap.size, 0, none⟩ 1 1 [.int .i64 1] (by rfl) rfl ?cells (by simp [Value.oneCell']) (by decide) (by show n + 1 ≤ 9223372036854775807; omega) (by omega) (by simp; omega) (w1.heap.size + 1) (by simp) ?_; rotate_left; intro g cap1 wn hown1 hgrow hat hlt1))
        case cells => exact fun j u hu => newcell (by simp) hu
        have hb3 : Below w.heap.size w wn := (hb2.alloc (by simp; omega) _).grown hgrow (by simp; omega) (fun k hk => by simp [Value.ownBlock] at hk; omega)
        rw [← List.map_singleton (f := Value.int .i64), ← List.map_append] at hown1
        go_wp2_with fail
        refine (validTerms_any _ (n + 1) _ (zs.set (n - 1) (z - 1) ++ [1]) _ (IRow.of_own hown1 (by omega) HR.out) (own_cap hown1)).mono ?_
        rintro e w' ⟨rfl, rfl⟩
        have HO := Lib.hid hown1
        clear hown1
        rw [hv]
        go_wp2_with fail
        go_ret2
        simp only [Bool.false_eq_true, and_true, and_false, true_and, if_true, if_false, HL.out]
        first | exact ⟨⟨none, 0, rfl, World.ownsRow_nil ..⟩, hb3⟩ | (unfold ResI; rw [HL.out]; exact ⟨⟨_, _, rfl, HO.out⟩, hb3⟩)
    · have hot : otL zs = shL zs := if_pos hs
      have hlt : (shL zs).length < n := by
        unfold shL
        rw [if_pos hs, List.length_set, List.length_take]
        omega
      unfold otfL otfC
      rw [hot, ht]
      generalize shL zs = ys at *
      obtain ⟨N, hN⟩ : ∃ N, N = ys.length := ⟨_, rfl⟩
      rw [← hN] at HC hlt
      have HN := Lib.hid hN
      have hne : ((N : Int) == (n : Int)) = false := by rw [beq_eq_false_iff_ne]; omega
      clear hN hot hs hl
      cases hv : trmB ys
      all_goals
        go_enter Tryz.func10, Tryz.ntmps10
        go_wp2_with fail
        refine (validTerms_any A n cap zs _ h hcap).mono ?_
        rintro e w' ⟨rfl, rfl⟩
        rw [ht]
        go_wp2_with fail
        refine HC.out.mono ?_
        rintro e w1 ⟨⟨B, c, rfl, ho⟩, hb1⟩
        go_wp2_with fail
        refine (validTerms_any B N c ys _ (IRow.of_own ho (by omega) HI.out) (own_cap ho)).mono ?_
        rintro e w' ⟨rfl, rfl⟩
        have HO := Lib.hid ho
        clear ho
        rw [hv]
        go_wp2_with fail
        go_ret2
        simp only [Bool.false_eq_true, and_true, and_false, true_and, if_true, if_false]
        first | exact ⟨⟨none, 0, rfl, World.ownsRow_nil ..⟩, hb1⟩ | (unfold ResI; rw [← HN.out]; exact ⟨⟨_, _, rfl, HO.out⟩, hb1⟩)
end Go.Proofs.YtlpglibnjmjjkaaGreatDoor
namespace Go.Proofs.YtlpglibnjmjjkaaGreatDoor
open Go.RowKit
set_option linter.unusedVariables false
attribute [local go_sem ↓] Go.wp_at_zero Go.wp_at_succ

/-- n bytes lie at A. -/
def BRow (w : World) (A : Option Addr) (n : Nat) (xs : List Int) : Prop := xs.length = n ∧ n ≤ 9223372036854775807 ∧ (∀ x ∈ xs, 0 ≤ x ∧ x ≤ 255) ∧ Rd w A (xs.map (Value.int .u8))
/-- A source of choices lies at block g. -/
def Src (w : World) (g : Nat) (A : Option Addr) (n cap at_ : Nat) : Prop :=
  w.cell? ⟨g, 0, none⟩ = some (.slice A n cap) ∧ w.cell? ⟨g, 1, none⟩ = some (.int .i64 at_) ∧ w.frozen? ⟨g, 1, none⟩ = false ∧ w.frozen? ⟨g, 2, none⟩ = false ∧
  ∃ s : Int, 0 ≤ s ∧ s < 18446744073709551616 ∧ w.cell? ⟨g, 2, none⟩ = some (.int .u64 s)

/-- Of what was there nothing but block g has turned. -/
def Kg (g : Nat) (w w' : World) : Prop := w.heap.size ≤ w'.heap.size ∧ ∀ i, i < w.heap.size → i ≠ g → w'.heap[i]? = w.heap[i]?
theorem Kg.refl (g : Nat) (w : World) : Kg g w w := ⟨Nat.le_refl _, fun _ _ _ => rfl⟩
theorem Kg.trans {g : Nat} {w w1 w2 : World} (h : Kg g w w1) (h' : Kg g w1 w2) : Kg g w w2 := ⟨Nat.le_trans h.1 h'.1, fun i hi hg => (h'.2 i (Nat.lt_of_lt_of_le hi h.1) hg).trans (h.2 i hi hg)⟩
theorem Kg.drewN {g : Nat} {w w1 : World} (h : Kg g w w1) (m : Nat) : Kg g w (w1.drewN m) := h
theorem Kg.below {g : Nat} {w w1 w2 : World} (h : Kg g w w1) (hb : Below w1.heap.size w1 w2) : Kg g w w2 := h.trans ⟨hb.size, fun i hi _ => hb.block i hi⟩
theorem Kg.set {g : Nat} {w w1 : World} (h : Kg g w w1) (o : Nat) (v : Value) : Kg g w (w1.setCell ⟨g, o, none⟩ v) := by
  refine ⟨by simpa using h.1, fun i hi hg => ?_⟩
  rw [← h.2 i hi hg]
  exact Below.heap_setCell w1 _ v i hg
theorem Kg.cell {g : Nat} {w w1 : World} (h : Kg g w w1) {p : Addr} (hp : p.block < w.heap.size) (hg : p.block ≠ g) : w1.cell? p = w.cell? p := World.cell?_of_block (w := w) (h.2 p.block hp hg)
theorem Kg.frozen {g : Nat} {w w1 : World} (h : Kg g w w1) {p : Addr} (hp : p.block < w.heap.size) (hg : p.block ≠ g) : w1.frozen? p = w.frozen? p := World.frozen?_of_block (w := w) (h.2 p.block hp hg)

theorem src_set {w0 w : World} {g n cap k B : Nat} {A : Option Addr} (h : Src w g A n cap k) (hB : Below B w0 w) (hg : B ≤ g) (m : Nat) (v : Int) (v0 : 0 ≤ v) (v1 : v < 18446744073709551616) :
    Src (((w.drewN m).setCell ⟨g, 1, none⟩ (.int .i64 ((k : Int) + 1))).setCell ⟨g, 2, none⟩ (.int .u64 v)) g A n cap (k + 1) ∧ Below B w0 (((w.drewN m).setCell ⟨g, 1, none⟩ (.int .i64 ((k : Int) + 1))).setCell ⟨g, 2, none⟩ (.int .u64 v)) ∧ Kg g w (((w.drewN m).setCell ⟨g, 1, none⟩ (.int .i64 ((k : Int) + 1))).setCell ⟨g, 2, none⟩ (.int .u64 v)) := by
  obtain ⟨c0, c1, f1, f2, s, s0, s1, c2⟩ := h
  have d0 : (w.drewN m).cell? ⟨g, 0, none⟩ = some (.slice A n cap) := by simpa using c0
  have d1 : (w.drewN m).cell? ⟨g, 1, none⟩ = some (.int .i64 k) := by simpa using c1
  have d2 : (w.drewN m).cell? ⟨g, 2, none⟩ = some (.int .u64 s) := by simpa using c2
  refine ⟨⟨setO (by simp) (setO (by simp) d0), setO (by simp) (by have := setS (v := .int .i64 ((k : Int) + 1)) d1; exact_mod_cast this), ?_, ?_, v, v0, v1, setS (setO (by simp) d2)⟩, (((hB.trans (below_drewN _ _ _)).setCell (p := ⟨g, 1, none⟩) hg _).setCell (p := ⟨g, 2, none⟩) hg _), (((Kg.refl g w).drewN m).set 1 _).set 2 _⟩
  · simpa using f1
  · simpa using f2

theorem mask255 (x : Int) (h0 : 0 ≤ x) (h1 : x < 9223372036854775808) : 0 ≤ wrap64 (bits .and .u64 x 255) ∧ wrap64 (bits .and .u64 x 255) ≤ 255 := by
  have h := bits_mask .u64 63 (by decide) (fun n h0 h1 => by rw [IntKind.wrap_u64]; omega) 8 (by decide) x h0 (by omega)
  have e : ((2 : Int) ^ 8 - 1) = 255 := by decide
  have e2 : ((2 : Int) ^ 8) = 256 := by decide
  rw [e, e2] at h
  rw [h]
  unfold wrap64
  omega
theorem src_drewN {w : World} {g n cap k : Nat} {A : Option Addr} (h : Src w g A n cap k) (m : Nat) : Src (w.drewN m) g A n cap k := by
  obtain ⟨c0, c1, f1, f2, s, s0, s1, c2⟩ := h
  exact ⟨by simpa using c0, by simpa using c1, by simpa using f1, by simpa using f2, s, s0, s1, by simpa using c2⟩
theorem u64_wrap (z : Int) : 0 ≤ IntKind.u64.wrap z ∧ IntKind.u64.wrap z < 18446744073709551616 := by rw [IntKind.wrap_u64]; omega

set_option maxHeartbeats 1600000 in
theorem next_core (g : Nat) (A : Option Addr) (n cap k B : Nat) (xs : List Int) (w0 w : World) (h : Src w g A n cap k) (hx : BRow w A n xs) (hk : k ≤ 1000) (hB : Below B w0 w) (hg : B ≤ g) :
    Calls Tryz.prog 111 #[.pointer (some ⟨g, 0, none⟩)] w fun e w' => (∃ r : Int, e = .returned (.int .i64 r) ∧ 0 ≤ r ∧ r ≤ 255) ∧ Src w' g A n cap (k + 1) ∧ Below B w0 w' ∧ Kg g w w' := by
  have HS := Lib.hid h
  have HB := Lib.hid hB
  obtain ⟨c0, c1, f1, f2, s, s0, s1, c2⟩ := h
  obtain ⟨xl, xn, xb, xr⟩ := hx
  clear hB
  by_cases hlt : k < n
  · obtain ⟨x, hx⟩ : ∃ x, xs[k]? = some x := ⟨_, List.getElem?_eq_getElem (by omega)⟩
    obtain ⟨ad, rfl, hc⟩ := xr k (.int .u8 x) (by rw [List.getElem?_map, hx]; rfl)
    obtain ⟨x0, x1⟩ := xb x (List.mem_of_getElem? hx)
    clear xr xb hx
    go_enter Tryz.func111, Tryz.ntmps111
    go_wp2_with fail
    go_quiet (fail)
    rename Nat => nq1
    go_wp2_with fail
    go_quiet (fail)
    go_wp2_with fail
    have hu := u64_wrap (IntKind.u64.wrap (IntKind.u64.wrap (s * 6364136223846793005) + x) + 1442695040888963407)
    generalize IntKind.u64.wrap (IntKind.u64.wrap (IntKind.u64.wrap (s * 6364136223846793005) + x) + 1442695040888963407) = v at hu ⊢
    have hSB := src_set HS.out HB.out hg (nq1 + nq) v hu.1 hu.2
    clear c0 c1 f1 f2 c2
    generalize ((w.drewN (nq1 + nq)).setCell ⟨g, 1, none⟩ (.int .i64 ((k : Int) + 1))).setCell ⟨g, 2, none⟩ (.int .u64 v) = W at hSB ⊢
    obtain ⟨hS1, hB1, hK1⟩ := hSB
    have HK1 := Lib.hid hK1
    clear hK1
    have HS1 := Lib.hid hS1
    have HB1 := Lib.hid hB1
    clear hB1
    obtain ⟨c0, c1, f1, f2, s', s0', s1', c2⟩ := hS1
    clear hc
    go_quiet (fail)
    go_wp2_with fail
    go_ret
    exact ⟨⟨_, rfl, x0, x1⟩, src_drewN HS1.out _, HB1.out.trans (below_drewN _ _ _), HK1.out.drewN _⟩
  · go_enter Tryz.func111, Tryz.ntmps111
    go_wp2_with fail
    go_quiet (fail)
    go_wp2_with fail
    have hu := u64_wrap (IntKind.u64.wrap (IntKind.u64.wrap (s * 6364136223846793005)) + 1442695040888963407)
    generalize IntKind.u64.wrap (IntKind.u64.wrap (IntKind.u64.wrap (s * 6364136223846793005)) + 1442695040888963407) = v at hu ⊢
    have hSB := src_set HS.out HB.out hg nq v hu.1 hu.2
    clear c0 c1 f1 f2 c2
    generalize ((w.drewN nq).setCell ⟨g, 1, none⟩ (.int .i64 ((k : Int) + 1))).setCell ⟨g, 2, none⟩ (.int .u64 v) = W at hSB ⊢
    obtain ⟨hS1, hB1, hK1⟩ := hSB
    have HK1 := Lib.hid hK1
    clear hK1
    have HS1 := Lib.hid hS1
    have HB1 := Lib.hid hB1
    clear hB1
    obtain ⟨c0, c1, f1, f2, s', s0', s1', c2⟩ := hS1
    go_quiet (fail)
    go_wp2_with fail
    go_ret
    have hm := mask255 (s' / 1099511627776) (by omega) (by omega)
    exact ⟨⟨_, rfl, hm.1, hm.2⟩, src_drewN HS1.out _, HB1.out.trans (below_drewN _ _ _), HK1.out.drewN _⟩


theorem BRow.below {w w' : World} {A : Option Addr} {n : Nat} {xs : List Int} (h : BRow w A n xs) (hb : Below w.heap.size w w') : BRow w' A n xs :=
  ⟨h.1, h.2.1, h.2.2.1, h.2.2.2.below hb⟩
/-- A source, K choices at most behind its start; of what was there when it was made nothing has turned. -/
def St (g : Nat) (A : Option Addr) (n cap K : Nat) (w0 w : World) : Prop := (∃ k, k ≤ K ∧ Src w g A n cap k) ∧ Below w0.heap.size w0 w
theorem St.mono {g : Nat} {A : Option Addr} {n cap K K' : Nat} {w0 w : World} (h : St g A n cap K w0 w) (hk : K ≤ K') : St g A n cap K' w0 w := by
  obtain ⟨⟨k, h1, h2⟩, h3⟩ := h
  exact ⟨⟨k, Nat.le_trans h1 hk, h2⟩, h3⟩
theorem Src.kept {g : Nat} {A : Option Addr} {n cap k : Nat} {w w' : World} (h : Src w g A n cap k) (hb : Below w.heap.size w w') : Src w' g A n cap k := by
  have hl := World.block_lt_of_cell? w _ h.1
  obtain ⟨c0, c1, f1, f2, s, s0, s1, c2⟩ := h
  exact ⟨(hb.cell (p := ⟨g, 0, none⟩) hl).trans c0, (hb.cell (p := ⟨g, 1, none⟩) hl).trans c1, (hb.frozen (p := ⟨g, 1, none⟩) hl).trans f1, (hb.frozen (p := ⟨g, 2, none⟩) hl).trans f2, s, s0, s1, (hb.cell (p := ⟨g, 2, none⟩) hl).trans c2⟩
theorem St.below {g : Nat} {A : Option Addr} {n cap K : Nat} {w0 w w' : World} (h : St g A n cap K w0 w) (hb : Below w.heap.size w w') : St g A n cap K w0 w' := by
  obtain ⟨⟨k, h1, h2⟩, h3⟩ := h
  exact ⟨⟨k, h1, h2.kept hb⟩, h3.trans (hb.mono h3.size)⟩
theorem Kg.other {g : Nat} {w w1 : World} (h : Kg g w w1) {b : Nat} (hb : w.heap.size ≤ b) (o : Nat) (v : Value) : Kg g w (w1.setCell ⟨b, o, none⟩ v) := by
  refine ⟨by simpa using h.1, fun i hi hg => ?_⟩
  rw [← h.2 i hi hg]
  exact Below.heap_setCell w1 _ v i (by show i ≠ b; omega)
theorem St.set {g : Nat} {A : Option Addr} {n cap K : Nat} {w0 w : World} (h : St g A n cap K w0 w) {b : Nat} (hne : g ≠ b) (hb : w0.heap.size ≤ b) (o : Nat) (v : Value) : St g A n cap K w0 (w.setCell ⟨b, o, none⟩ v) := by
  obtain ⟨⟨k, h1, c0, c1, f1, f2, s, s0, s1, c2⟩, h3⟩ := h
  have e : ∀ j, (⟨b, o, none⟩ : Addr) ≠ ⟨g, j, none⟩ := fun j e => by injection e with e; exact hne e.symm
  exact ⟨⟨k, h1, setO (e 0) c0, setO (e 1) c1, setF f1, setF f2, s, s0, s1, setO (e 2) c2⟩, h3.setCell (p := ⟨b, o, none⟩) hb _⟩
theorem St.lt {g : Nat} {A : Option Addr} {n cap K : Nat} {w0 w : World} (h : St g A n cap K w0 w) : g < w.heap.size := by
  obtain ⟨⟨k, _, h2⟩, _⟩ := h
  exact World.block_lt_of_cell? w _ h2.1
theorem next_any (g : Nat) (A : Option Addr) (n cap K : Nat) (xs : List Int) (w0 w : World) (h : St g A n cap K w0 w) (hx : BRow w0 A n xs) (hk : K ≤ 1000) (hg : w0.heap.size ≤ g) :
    Calls Tryz.prog 111 #[.pointer (some ⟨g, 0, none⟩)] w fun e w' => (∃ r : Int, e = .returned (.int .i64 r) ∧ 0 ≤ r ∧ r ≤ 255) ∧ St g A n cap (K + 1) w0 w' ∧ Kg g w w' := by
  obtain ⟨⟨k, h1, h2⟩, h3⟩ := h
  refine (next_core g A n cap k _ xs w0 w h2 (hx.below h3) (by omega) h3 hg).mono ?_
  rintro e w' ⟨hr, hs, hb, hk'⟩
  exact ⟨hr, ⟨⟨k + 1, by omega, hs⟩, hb⟩, hk'⟩
set_option maxHeartbeats 1600000 in
theorem pick_any (g : Nat) (A : Option Addr) (n cap K : Nat) (xs : List Int) (m : Int) (w0 w : World) (h : St g A n cap K w0 w) (hx : BRow w0 A n xs) (hk : K ≤ 900) (hg : w0.heap.size ≤ g) (h1 : 1 ≤ m) (h2 : m ≤ 60000) :
    Calls Tryz.prog 76 #[.pointer (some ⟨g, 0, none⟩), .int .i64 m] w fun e w' => (∃ r : Int, e = .returned (.int .i64 r) ∧ 0 ≤ r ∧ r < m) ∧ St g A n cap (K + 2) w0 w' ∧ Kg g w w' := by
  have HX := Lib.hid hx
  have H := Lib.hid h
  clear hx h
  by_cases hm : m ≤ 1
  · go_enter Tryz.func76, Tryz.ntmps76
    go_wp2_with fail
    go_ret
    exact ⟨⟨0, rfl, by omega, by omega⟩, H.out.mono (by omega), Kg.refl _ _⟩
  · have HM := fun r => Int.emod_nonneg r (show m ≠ 0 by omega)
    have HM' := fun r => Int.emod_lt_of_pos r (show 0 < m by omega)
    replace HM := Lib.hid HM
    replace HM' := Lib.hid HM'
    by_cases hm2 : (200 : Int) < m
    · go_enter Tryz.func76, Tryz.ntmps76
      go_wp2_with fail
      refine (next_any g A n cap K xs w0 w H.out HX.out (by omega) hg).mono ?_
      rintro e w1 ⟨⟨r, rfl, r0, r1⟩, hs1, hk1⟩
      have H1 := Lib.hid hs1
      have K1 := Lib.hid hk1
      clear hs1 hk1 H
      go_wp2_with fail
      refine (next_any g A n cap (K + 1) xs w0 w1 H1.out HX.out (by omega) hg).mono ?_
      rintro e w2 ⟨⟨r', rfl, r0', r1'⟩, hs2, hk2⟩
      have H2 := Lib.hid hs2
      have K2 := Lib.hid hk2
      clear hs2 hk2
      go_wp2_with fail
      go_ret
      exact ⟨⟨_, rfl, HM.out _, HM'.out _⟩, H2.out, K1.out.trans K2.out⟩
    · go_enter Tryz.func76, Tryz.ntmps76
      go_wp2_with fail
      refine (next_any g A n cap K xs w0 w H.out HX.out (by omega) hg).mono ?_
      rintro e w1 ⟨⟨r, rfl, r0, r1⟩, hs1, hk1⟩
      have H1 := Lib.hid hs1
      have K1 := Lib.hid hk1
      clear hs1 hk1 H
      go_wp2_with fail
      go_ret
      exact ⟨⟨_, rfl, HM.out _, HM'.out _⟩, H1.out.mono (by omega), K1.out⟩
theorem one_any (g : Nat) (A : Option Addr) (n cap K : Nat) (xs : List Int) (m : Int) (w0 w : World) (h : St g A n cap K w0 w) (hx : BRow w0 A n xs) (hk : K ≤ 900) (hg : w0.heap.size ≤ g) (h1 : 1 ≤ m) (h2 : m ≤ 60000) :
    Calls Tryz.prog 72 #[.pointer (some ⟨g, 0, none⟩), .int .i64 m] w fun e w' => (∃ b : Bool, e = .returned (.bool b)) ∧ St g A n cap (K + 2) w0 w' ∧ Kg g w w' := by
  have HP := Lib.hid (pick_any g A n cap K xs m w0 w h hx hk hg h1 h2)
  clear h hx
  go_enter Tryz.func72, Tryz.ntmps72
  go_wp2_with fail
  refine HP.out.mono ?_
  rintro e w1 ⟨⟨r, rfl, r0, r1⟩, hs1, hk1⟩
  have H1 := Lib.hid hs1
  have K1 := Lib.hid hk1
  clear hs1 hk1
  go_wp2_with fail
  go_ret
  exact ⟨⟨_, rfl⟩, H1.out, K1.out⟩
theorem l00From_any (A : Option Addr) (n cap : Nat) (w : World) :
    Calls Tryz.prog 39 #[.slice A n cap] w fun e w' => e = .returned (.pointer (some ⟨w.heap.size, 0, none⟩)) ∧ St w.heap.size A n cap 0 w w' := by
  go_enter Tryz.func39, Tryz.ntmps39
  go_wp2_with fail
  go_ret
  exact ⟨rfl, ⟨0, Nat.le_refl _, by simp [go_sem], by simp [go_sem], by simp, by simp, 0, by omega, by omega, by simp [go_sem]⟩, (Below.refl _ _).alloc (Nat.le_refl _) _⟩

theorem make_ok {num den : Int} (h1 : -300 ≤ num) (h2 : num ≤ 300) (h3 : 1 ≤ den) (h4 : den ≤ 300) :
    vfB (num.tdiv (Int.gcd num den : Nat)) (den.tdiv (Int.gcd num den : Nat)) = true ∧ -300 ≤ num.tdiv (Int.gcd num den : Nat) ∧ num.tdiv (Int.gcd num den : Nat) ≤ 300 ∧ den.tdiv (Int.gcd num den : Nat) ≤ 300 := by
  have hg : 0 < Int.gcd num den := gcd_pos (a := num) (.inr (show 0 < den by omega))
  have e1 : num.tdiv (Int.gcd num den : Nat) = num / (Int.gcd num den : Nat) := Int.tdiv_eq_ediv_of_dvd (Int.gcd_dvd_left ..)
  have e2 : den.tdiv (Int.gcd num den : Nat) = den / (Int.gcd num den : Nat) := Int.tdiv_eq_ediv_of_dvd (Int.gcd_dvd_right ..)
  have hc : Int.gcd (num / (Int.gcd num den : Nat)) (den / (Int.gcd num den : Nat)) = 1 := Int.gcd_ediv_gcd_ediv_gcd hg
  have b1 := tdiv_bd num (Int.gcd num den : Nat)
  have b2 := tdiv_bd den (Int.gcd num den : Nat)
  have hd : den / (Int.gcd num den : Nat) * (Int.gcd num den : Nat) = den := Int.ediv_mul_cancel (Int.gcd_dvd_right ..)
  have hp : 1 ≤ den / (Int.gcd num den : Nat) := by
    rcases Int.lt_or_le (den / (Int.gcd num den : Nat)) 1 with hl | hl
    · exfalso
      have : den / (Int.gcd num den : Nat) * (Int.gcd num den : Nat) ≤ 0 * (Int.gcd num den : Nat) := Int.mul_le_mul_of_nonneg_right (by omega) (by omega)
      omega
    · exact hl
  rw [e1, e2] at *
  refine ⟨vfB_iff.2 ⟨hp, by omega, by omega, by omega, hc⟩, by omega, by omega, by omega⟩
/-- A drawn fraction. -/
def DrwF (x y : Int) : Prop := vfB x y = true ∧ -300 ≤ x ∧ x ≤ 300 ∧ y ≤ 300
set_option maxHeartbeats 1600000 in
theorem l02Draw_any (g : Nat) (A : Option Addr) (n cap K : Nat) (xs : List Int) (w0 w : World) (h : St g A n cap K w0 w) (hx : BRow w0 A n xs) (hk : K ≤ 800) (hg : w0.heap.size ≤ g) :
    Calls Tryz.prog 40 #[.pointer (some ⟨g, 0, none⟩), .int .i64 300] w fun e w' => (∃ x y : Int, e = .returned (.agg #[.int .i64 x, .int .i64 y]) ∧ DrwF x y) ∧ St g A n cap (K + 8) w0 w' ∧ Kg g w w' := by
  have hgl := h.lt
  have HX := Lib.hid hx
  have H := Lib.hid (h.below (((Below.refl _ _).alloc (Nat.le_refl _) (.cells #[.int .i64 0, .int .i64 0] 25)) : Below w.heap.size w _))
  have K0 := Lib.hid ((Kg.refl g w).below ((Below.refl _ _).alloc (Nat.le_refl _) (.cells #[.int .i64 0, .int .i64 0] 25)))
  have Z0 := Lib.hid (show ∀ k, k < 2 → (w.alloc (.cells #[.int .i64 0, .int .i64 0] 25)).cell? ⟨w.heap.size, k, none⟩ = some (.int .i64 0) ∧ (w.alloc (.cells #[.int .i64 0, .int .i64 0] 25)).frozen? ⟨w.heap.size, k, none⟩ = false from fun k hk => by
    rcases (by omega : k = 0 ∨ k = 1) with rfl | rfl
    · exact ⟨newcellA rfl rfl, by simp⟩
    · exact ⟨newcellA rfl rfl, by simp⟩)
  clear hx h
  go_enter Tryz.func40, Tryz.ntmps40
  go_wp2_with fail
  refine (pick_any g A n cap K xs 601 w0 _ H.out HX.out (by omega) hg (by omega) (by omega)).mono ?_
  rintro e w1 ⟨⟨r1, rfl, a1, a2⟩, hs1, hk1⟩
  have H1 := Lib.hid hs1
  have K1 := Lib.hid (K0.out.trans hk1)
  have Z1 := Lib.hid (show ∀ k, k < 2 → w1.cell? ⟨w.heap.size, k, none⟩ = some (.int .i64 0) ∧ w1.frozen? ⟨w.heap.size, k, none⟩ = false from fun k hk => ⟨(hk1.cell (p := ⟨w.heap.size, k, none⟩) (by simp) (by simp; omega)).trans (Z0.out k hk).1, (hk1.frozen (p := ⟨w.heap.size, k, none⟩) (by simp) (by simp; omega)).trans (Z0.out k hk).2⟩)
  have l1 : w.heap.size < w1.heap.size := by have := hk1.1; simp at this; omega
  clear hs1 hk1 H K0 Z0
  go_wp2_with fail
  refine (one_any g A n cap (K + 2) xs 2 w0 _ H1.out HX.out (by omega) hg (by omega) (by omega)).mono ?_
  rintro e w2 ⟨⟨b, rfl⟩, hs2, hk2⟩
  have H2 := Lib.hid hs2
  have K2 := Lib.hid (K1.out.trans hk2)
  have Z2 := Lib.hid (show ∀ k, k < 2 → w2.cell? ⟨w.heap.size, k, none⟩ = some (.int .i64 0) ∧ w2.frozen? ⟨w.heap.size, k, none⟩ = false from fun k hk => ⟨(hk2.cell (p := ⟨w.heap.size, k, none⟩) l1 (by simp; omega)).trans (Z1.out k hk).1, (hk2.frozen (p := ⟨w.heap.size, k, none⟩) l1 (by simp; omega)).trans (Z1.out k hk).2⟩)
  have l2 : w.heap.size < w2.heap.size := Nat.lt_of_lt_of_le l1 hk2.1
  clear hs2 hk2 H1 K1 Z1
  cases b
  · go_wp2_with fail
    refine (pick_any g A n cap (K + 4) xs 300 w0 _ H2.out HX.out (by omega) hg (by omega) (by omega)).mono ?_
    rintro e w3 ⟨⟨r9, rfl, a3, a4⟩, hs3, hk3⟩
    have H3 := Lib.hid hs3
    have K3 := Lib.hid (K2.out.trans hk3)
    have Z3 := Lib.hid (show ∀ k, k < 2 → w3.cell? ⟨w.heap.size, k, none⟩ = some (.int .i64 0) ∧ w3.frozen? ⟨w.heap.size, k, none⟩ = false from fun k hk => ⟨(hk3.cell (p := ⟨w.heap.size, k, none⟩) l2 (by simp; omega)).trans (Z2.out k hk).1, (hk3.frozen (p := ⟨w.heap.size, k, none⟩) l2 (by simp; omega)).trans (Z2.out k hk).2⟩)
    have l3 : w.heap.size < w3.heap.size := Nat.lt_of_lt_of_le l2 hk3.1
    clear hs3 hk3 H2 K2 Z2
    go_wp2_with fail
    refine (l02Make_any (r1 - 300) (1 + r9) _ (by omega) (by omega) (by omega) (by omega)).mono ?_
    obtain ⟨m1, m2, m3, m4⟩ := make_ok (num := r1 - 300) (den := 1 + r9) (by omega) (by omega) (by omega) (by omega)
    generalize (r1 - 300).tdiv (Int.gcd (r1 - 300) (1 + r9) : Nat) = x at *
    generalize (1 + r9).tdiv (Int.gcd (r1 - 300) (1 + r9) : Nat) = y at *
    have HD := Lib.hid (show DrwF x y from ⟨m1, m2, m3, m4⟩)
    clear m1 m2 m3 m4
    rintro e w10 ⟨rfl, hb⟩
    have H10 := Lib.hid (H3.out.below hb)
    have K10 := Lib.hid (K3.out.below hb)
    have z0 : w10.cell? ⟨w.heap.size, 0, none⟩ = some (.int .i64 0) := (hb.cell (p := ⟨w.heap.size, 0, none⟩) l3).trans (Z3.out 0 (by omega)).1
    have z1 : w10.cell? ⟨w.heap.size, 1, none⟩ = some (.int .i64 0) := (hb.cell (p := ⟨w.heap.size, 1, none⟩) l3).trans (Z3.out 1 (by omega)).1
    have f0 : w10.frozen? ⟨w.heap.size, 0, none⟩ = false := (hb.frozen (p := ⟨w.heap.size, 0, none⟩) l3).trans (Z3.out 0 (by omega)).2
    have f1 : w10.frozen? ⟨w.heap.size, 1, none⟩ = false := (hb.frozen (p := ⟨w.heap.size, 1, none⟩) l3).trans (Z3.out 1 (by omega)).2
    clear hb H3 K3 Z3
    go_wp2_with fail
    exact bodyPost_ret (v := .agg #[.int .i64 x, .int .i64 y]) (by simp [results, Tryz.results40, go_sem, pair_set z0 z1]) rfl ⟨⟨x, y, rfl, HD.out⟩, ((H10.out.set (b := w.heap.size) (by omega) (by have := H10.out.2.size; omega) 0 _).set (b := w.heap.size) (by omega) (by omega) 1 _).mono (by omega), (K10.out.other (Nat.le_refl _) 0 _).other (Nat.le_refl _) 1 _⟩
  · go_wp2_with fail
    refine (pick_any g A n cap (K + 4) xs 301 w0 _ H2.out HX.out (by omega) hg (by omega) (by omega)).mono ?_
    rintro e w3 ⟨⟨r2, rfl, a3, a4⟩, hs3, hk3⟩
    have H3 := Lib.hid hs3
    have K3 := Lib.hid (K2.out.trans hk3)
    have Z3 := Lib.hid (show ∀ k, k < 2 → w3.cell? ⟨w.heap.size, k, none⟩ = some (.int .i64 0) ∧ w3.frozen? ⟨w.heap.size, k, none⟩ = false from fun k hk => ⟨(hk3.cell (p := ⟨w.heap.size, k, none⟩) l2 (by simp; omega)).trans (Z2.out k hk).1, (hk3.frozen (p := ⟨w.heap.size, k, none⟩) l2 (by simp; omega)).trans (Z2.out k hk).2⟩)
    have l3 : w.heap.size < w3.heap.size := Nat.lt_of_lt_of_le l2 hk3.1
    clear hs3 hk3 H2 K2 Z2
    go_wp2_with fail
    refine (pick_any g A n cap (K + 6) xs 300 w0 _ H3.out HX.out (by omega) hg (by omega) (by omega)).mono ?_
    rintro e w4 ⟨⟨r9, rfl, a5, a6⟩, hs4, hk4⟩
    have H4 := Lib.hid hs4
    have K4 := Lib.hid (K3.out.trans hk4)
    have Z4 := Lib.hid (show ∀ k, k < 2 → w4.cell? ⟨w.heap.size, k, none⟩ = some (.int .i64 0) ∧ w4.frozen? ⟨w.heap.size, k, none⟩ = false from fun k hk => ⟨(hk4.cell (p := ⟨w.heap.size, k, none⟩) l3 (by simp; omega)).trans (Z3.out k hk).1, (hk4.frozen (p := ⟨w.heap.size, k, none⟩) l3 (by simp; omega)).trans (Z3.out k hk).2⟩)
    have l4 : w.heap.size < w4.heap.size := Nat.lt_of_lt_of_le l3 hk4.1
    clear hs4 hk4 H3 K3 Z3
    go_wp2_with fail
    refine (l02Make_any r2 (1 + r9) _ (by omega) (by omega) (by omega) (by omega)).mono ?_
    obtain ⟨m1, m2, m3, m4⟩ := make_ok (num := r2) (den := 1 + r9) (by omega) (by omega) (by omega) (by omega)
    generalize (r2).tdiv (Int.gcd (r2) (1 + r9) : Nat) = x at *
    generalize (1 + r9).tdiv (Int.gcd (r2) (1 + r9) : Nat) = y at *
    have HD := Lib.hid (show DrwF x y from ⟨m1, m2, m3, m4⟩)
    clear m1 m2 m3 m4
    rintro e w10 ⟨rfl, hb⟩
    have H10 := Lib.hid (H4.out.below hb)
    have K10 := Lib.hid (K4.out.below hb)
    have z0 : w10.cell? ⟨w.heap.size, 0, none⟩ = some (.int .i64 0) := (hb.cell (p := ⟨w.heap.size, 0, none⟩) l4).trans (Z4.out 0 (by omega)).1
    have z1 : w10.cell? ⟨w.heap.size, 1, none⟩ = some (.int .i64 0) := (hb.cell (p := ⟨w.heap.size, 1, none⟩) l4).trans (Z4.out 1 (by omega)).1
    have f0 : w10.frozen? ⟨w.heap.size, 0, none⟩ = false := (hb.frozen (p := ⟨w.heap.size, 0, none⟩) l4).trans (Z4.out 0 (by omega)).2
    have f1 : w10.frozen? ⟨w.heap.size, 1, none⟩ = false := (hb.frozen (p := ⟨w.heap.size, 1, none⟩) l4).trans (Z4.out 1 (by omega)).2
    clear hb H4 K4 Z4
    go_wp2_with fail
    exact bodyPost_ret (v := .agg #[.int .i64 x, .int .i64 y]) (by simp [results, Tryz.results40, go_sem, pair_set z0 z1]) rfl ⟨⟨x, y, rfl, HD.out⟩, ((H10.out.set (b := w.heap.size) (by omega) (by have := H10.out.2.size; omega) 0 _).set (b := w.heap.size) (by omega) (by omega) 1 _).mono (by omega), (K10.out.other (Nat.le_refl _) 0 _).other (Nat.le_refl _) 1 _⟩
end Go.Proofs.YtlpglibnjmjjkaaGreatDoor
namespace Go.Proofs.YtlpglibnjmjjkaaGreatDoor
open Go.RowKit
set_option linter.unusedVariables false
set_option linter.unusedSimpArgs false
attribute [local go_sem ↓] Go.wp_at_zero Go.wp_at_succ

/-- Two cells of a block that lies apart from the source. -/
def Pr (w : World) (b : Nat) (x y : Int) : Prop := w.cell? ⟨b, 0, none⟩ = some (.int .i64 x) ∧ w.cell? ⟨b, 1, none⟩ = some (.int .i64 y) ∧ w.frozen? ⟨b, 0, none⟩ = false ∧ w.frozen? ⟨b, 1, none⟩ = false
theorem Pr.lt {w : World} {b : Nat} {x y : Int} (h : Pr w b x y) : b < w.heap.size := World.block_lt_of_cell? w _ h.1
theorem Pr.kg {g : Nat} {w w1 : World} {b : Nat} {x y : Int} (h : Pr w b x y) (hk : Kg g w w1) (hb : b ≠ g) : Pr w1 b x y :=
  ⟨(hk.cell (p := ⟨b, 0, none⟩) h.lt hb).trans h.1, (hk.cell (p := ⟨b, 1, none⟩) h.lt hb).trans h.2.1, (hk.frozen (p := ⟨b, 0, none⟩) h.lt hb).trans h.2.2.1, (hk.frozen (p := ⟨b, 1, none⟩) h.lt hb).trans h.2.2.2⟩
theorem Pr.below {w w1 : World} {b : Nat} {x y : Int} (h : Pr w b x y) (hb : Below w.heap.size w w1) : Pr w1 b x y :=
  ⟨(hb.cell (p := ⟨b, 0, none⟩) h.lt).trans h.1, (hb.cell (p := ⟨b, 1, none⟩) h.lt).trans h.2.1, (hb.frozen (p := ⟨b, 0, none⟩) h.lt).trans h.2.2.1, (hb.frozen (p := ⟨b, 1, none⟩) h.lt).trans h.2.2.2⟩
theorem Pr.drew {w : World} {b : Nat} {x y : Int} (h : Pr w b x y) : Pr w.drew b x y := h
theorem Pr.new (w : World) (x y : Int) (t : TypeId) : Pr (w.alloc (.cells #[.int .i64 x, .int .i64 y] t)) w.heap.size x y := ⟨newcellA rfl rfl, newcellA rfl rfl, by simp, by simp⟩
theorem St.drew {g : Nat} {A : Option Addr} {n cap K : Nat} {w0 w : World} (h : St g A n cap K w0 w) : St g A n cap K w0 w.drew := ⟨h.1, h.2.drew⟩
theorem St.alloc {g : Nat} {A : Option Addr} {n cap K : Nat} {w0 w : World} (h : St g A n cap K w0 w) (o : Obj) : St g A n cap K w0 (w.alloc o) := h.below ((Below.refl _ _).alloc (Nat.le_refl _) o)

theorem s4_set {W : World} {b1 b2 b : Nat} {x y z u : Value} (h : W.cell? ⟨b1, 0, none⟩ = some x ∧ W.cell? ⟨b1, 1, none⟩ = some y ∧ W.cell? ⟨b2, 0, none⟩ = some z ∧ W.cell? ⟨b2, 1, none⟩ = some u) (h1 : b < b1) (h2 : b < b2) (s t : Value) :
    ((W.setCell ⟨b, 0, none⟩ s).setCell ⟨b, 1, none⟩ t).cell? ⟨b1, 0, none⟩ = some x ∧ ((W.setCell ⟨b, 0, none⟩ s).setCell ⟨b, 1, none⟩ t).cell? ⟨b1, 1, none⟩ = some y ∧ ((W.setCell ⟨b, 0, none⟩ s).setCell ⟨b, 1, none⟩ t).cell? ⟨b2, 0, none⟩ = some z ∧ ((W.setCell ⟨b, 0, none⟩ s).setCell ⟨b, 1, none⟩ t).cell? ⟨b2, 1, none⟩ = some u := by
  have e : ∀ c, b < c → ∀ j k, (⟨b, j, none⟩ : Addr) ≠ ⟨c, k, none⟩ := fun c hc j k e => by injection e with e; omega
  exact ⟨setO (e _ h1 _ _) (setO (e _ h1 _ _) h.1), setO (e _ h1 _ _) (setO (e _ h1 _ _) h.2.1), setO (e _ h2 _ _) (setO (e _ h2 _ _) h.2.2.1), setO (e _ h2 _ _) (setO (e _ h2 _ _) h.2.2.2)⟩

theorem s6 {W : World} {b : Nat} {u0 u1 u2 u3 u4 u5 v0 v1 v2 v3 v4 v5 : Value} (a0 : W.cell? ⟨b, 0, none⟩ = some u0) (a1 : W.cell? ⟨b, 1, none⟩ = some u1) (a2 : W.cell? ⟨b + 1, 0, none⟩ = some u2) (a3 : W.cell? ⟨b + 1, 1, none⟩ = some u3)
    (a4 : W.cell? ⟨b + 1 + 1, 0, none⟩ = some u4) (a5 : W.cell? ⟨b + 1 + 1, 1, none⟩ = some u5) :
    let X := (((((W.setCell ⟨b, 0, none⟩ v0).setCell ⟨b, 1, none⟩ v1).setCell ⟨b + 1, 0, none⟩ v2).setCell ⟨b + 1, 1, none⟩ v3).setCell ⟨b + 1 + 1, 0, none⟩ v4).setCell ⟨b + 1 + 1, 1, none⟩ v5
    X.cell? ⟨b, 0, none⟩ = some v0 ∧ X.cell? ⟨b, 1, none⟩ = some v1 ∧ X.cell? ⟨b + 1, 0, none⟩ = some v2 ∧ X.cell? ⟨b + 1, 1, none⟩ = some v3 ∧ X.cell? ⟨b + 1 + 1, 0, none⟩ = some v4 ∧ X.cell? ⟨b + 1 + 1, 1, none⟩ = some v5 := by
  intro X
  have e : ∀ c d j k, c ≠ d ∨ j ≠ k → (⟨c, j, none⟩ : Addr) ≠ ⟨d, k, none⟩ := fun c d j k h e => by injection e with e1 e2; omega
  refine ⟨?_, ?_, ?_, ?_, ?_, ?_⟩
  · exact setO (e _ _ _ _ (by omega)) (setO (e _ _ _ _ (by omega)) (setO (e _ _ _ _ (by omega)) (setO (e _ _ _ _ (by omega)) (setO (e _ _ _ _ (by omega)) (setS a0)))))
  · exact setO (e _ _ _ _ (by omega)) (setO (e _ _ _ _ (by omega)) (setO (e _ _ _ _ (by omega)) (setO (e _ _ _ _ (by omega)) (setS (setO (e _ _ _ _ (by omega)) a1)))))
  · exact setO (e _ _ _ _ (by omega)) (setO (e _ _ _ _ (by omega)) (setO (e _ _ _ _ (by omega)) (setS (setO (e _ _ _ _ (by omega)) (setO (e _ _ _ _ (by omega)) a2)))))
  · exact setO (e _ _ _ _ (by omega)) (setO (e _ _ _ _ (by omega)) (setS (setO (e _ _ _ _ (by omega)) (setO (e _ _ _ _ (by omega)) (setO (e _ _ _ _ (by omega)) a3)))))
  · exact setO (e _ _ _ _ (by omega)) (setS (setO (e _ _ _ _ (by omega)) (setO (e _ _ _ _ (by omega)) (setO (e _ _ _ _ (by omega)) (setO (e _ _ _ _ (by omega)) a4)))))
  · exact setS (setO (e _ _ _ _ (by omega)) (setO (e _ _ _ _ (by omega)) (setO (e _ _ _ _ (by omega)) (setO (e _ _ _ _ (by omega)) (setO (e _ _ _ _ (by omega)) a5)))))

set_option maxHeartbeats 1600000 in
theorem a2Fractions_any (A : Option Addr) (n cap : Nat) (xs : List Int) (w : World) (hx : BRow w A n xs) :
    Calls Tryz.prog 6 #[.slice A n cap] w fun e w' => (∃ x1 y1 x2 y2 x3 y3 : Int, e = .returned (.tuple #[.agg #[.int .i64 x1, .int .i64 y1], .agg #[.int .i64 x2, .int .i64 y2], .agg #[.int .i64 x3, .int .i64 y3]]) ∧ DrwF x1 y1 ∧ DrwF x2 y2 ∧ DrwF x3 y3) ∧ Below w.heap.size w w' := by
  obtain ⟨w0, hw0⟩ : ∃ w0, w0 = ((w.alloc (.cells #[.int .i64 0, .int .i64 0] 25)).alloc (.cells #[.int .i64 0, .int .i64 0] 25)).alloc (.cells #[.int .i64 0, .int .i64 0] 25) := ⟨_, rfl⟩
  have hB0 : Below w.heap.size w w0 := by rw [hw0]; exact (((Below.refl _ _).alloc (Nat.le_refl _) _).alloc (by simp) _).alloc (by simp; omega) _
  have hS0 : w0.heap.size = w.heap.size + 3 := by rw [hw0]; simp
  have hP1 : Pr w0 w.heap.size 0 0 := by rw [hw0]; exact ((Pr.new w 0 0 _).below ((Below.refl _ _).alloc (Nat.le_refl _) _)).below ((Below.refl _ _).alloc (Nat.le_refl _) _)
  have hP2 : Pr w0 (w.heap.size + 1) 0 0 := by
    have h := ((Pr.new (w.alloc (.cells #[.int .i64 0, .int .i64 0] 25)) 0 0 25).below ((Below.refl _ _).alloc (Nat.le_refl _) (.cells #[.int .i64 0, .int .i64 0] 25)))
    rw [hw0]; simpa using h
  have hP3 : Pr w0 (w.heap.size + 1 + 1) 0 0 := by
    have h := Pr.new ((w.alloc (.cells #[.int .i64 0, .int .i64 0] 25)).alloc (.cells #[.int .i64 0, .int .i64 0] 25)) 0 0 25
    rw [hw0]; simpa using h
  have HX := Lib.hid (hx.below hB0)
  have hl0 : w.heap.size + 2 < w0.heap.size := by omega
  have HW := Lib.hid hw0.symm
  have HS := Lib.hid hS0
  have HP1 := Lib.hid hP1
  have HP2 := Lib.hid hP2
  have HP3 := Lib.hid hP3
  clear hw0 hS0 hP1 hP2 hP3 hx
  go_enter Tryz.func6, Tryz.ntmps6
  go_wp2_with fail
  rw [HW.out]
  refine (l00From_any A n cap w0).mono ?_
  rintro e w1 ⟨rfl, hs1⟩
  have hb1 : Below w0.heap.size w0 w1 := hs1.2
  have H1 := Lib.hid hs1
  have P11 := Lib.hid (HP1.out.below hb1)
  have P21 := Lib.hid (HP2.out.below hb1)
  have P31 := Lib.hid (HP3.out.below hb1)
  clear hs1 hb1
  go_wp2_with fail
  refine (l02Draw_any w0.heap.size A n cap 0 xs w0 w1 H1.out HX.out (by omega) (Nat.le_refl _)).mono ?_
  rintro e w2 ⟨⟨x1, y1, rfl, hd1⟩, hs2, hk2⟩
  have D1 := Lib.hid hd1
  have H2 := Lib.hid (hs2.alloc (.cells #[.int .i64 x1, .int .i64 y1] 25))
  have hA2 := (Kg.refl w0.heap.size w2).below ((Below.refl _ _).alloc (Nat.le_refl _) (.cells #[.int .i64 x1, .int .i64 y1] 25))
  have P12 := Lib.hid ((P11.out.kg hk2 (by have := HS.out; omega)).kg hA2 (by have := HS.out; omega))
  have P22 := Lib.hid ((P21.out.kg hk2 (by have := HS.out; omega)).kg hA2 (by have := HS.out; omega))
  have P32 := Lib.hid ((P31.out.kg hk2 (by have := HS.out; omega)).kg hA2 (by have := HS.out; omega))
  have Q12 := Lib.hid (Pr.new w2 x1 y1 25)
  have hl2 : w0.heap.size < w2.heap.size := hs2.lt
  clear hd1 hs2 hk2 hA2 H1 P11 P21 P31 HP1 HP2 HP3
  go_wp2_with fail
  refine (l02Draw_any w0.heap.size A n cap 8 xs w0 _ H2.out HX.out (by omega) (Nat.le_refl _)).mono ?_
  rintro e w3 ⟨⟨x2, y2, rfl, hd2⟩, hs3, hk3⟩
  have D2 := Lib.hid hd2
  have H3 := Lib.hid (hs3.alloc (.cells #[.int .i64 x2, .int .i64 y2] 25))
  have hA3 := (Kg.refl w0.heap.size w3).below ((Below.refl _ _).alloc (Nat.le_refl _) (.cells #[.int .i64 x2, .int .i64 y2] 25))
  have P13 := Lib.hid ((P12.out.kg hk3 (by have := HS.out; omega)).kg hA3 (by have := HS.out; omega))
  have P23 := Lib.hid ((P22.out.kg hk3 (by have := HS.out; omega)).kg hA3 (by have := HS.out; omega))
  have P33 := Lib.hid ((P32.out.kg hk3 (by have := HS.out; omega)).kg hA3 (by have := HS.out; omega))
  have Q13 := Lib.hid ((Q12.out.kg hk3 (by omega)).kg hA3 (by omega))
  have Q23 := Lib.hid (Pr.new w3 x2 y2 25)
  have hl3 : w2.heap.size < w3.heap.size := by have := hk3.1; simp at this; omega
  clear hd2 hs3 hk3 hA3 H2 P12 P22 P32 Q12
  go_wp2_with fail
  have hl4 : w3.heap.size < (w3.alloc (.cells #[.int .i64 x2, .int .i64 y2] 25)).heap.size := by simp
  generalize w3.alloc (.cells #[.int .i64 x2, .int .i64 y2] 25) = wq at *
  replace P13 := Lib.hid P13.out.drew
  replace P23 := Lib.hid P23.out.drew
  replace P33 := Lib.hid P33.out.drew
  replace Q13 := Lib.hid Q13.out.drew
  replace Q23 := Lib.hid Q23.out.drew
  replace H3 := Lib.hid H3.out.drew
  have R13 := Lib.hid (show wq.cell? ⟨w2.heap.size, 0, none⟩ = some (.int .i64 x1) ∧ wq.cell? ⟨w2.heap.size, 1, none⟩ = some (.int .i64 y1) ∧ wq.cell? ⟨w3.heap.size, 0, none⟩ = some (.int .i64 x2) ∧ wq.cell? ⟨w3.heap.size, 1, none⟩ = some (.int .i64 y2) from ⟨Q13.out.1, Q13.out.2.1, Q23.out.1, Q23.out.2.1⟩)
  go_region_held3 (fun w' => w'.cell? ⟨w2.heap.size, 0, none⟩ = some (.int .i64 x1) ∧ w'.cell? ⟨w2.heap.size, 1, none⟩ = some (.int .i64 y1) ∧ w'.cell? ⟨w3.heap.size, 0, none⟩ = some (.int .i64 x2) ∧ w'.cell? ⟨w3.heap.size, 1, none⟩ = some (.int .i64 y2))
    (first | exact s4_set (by assumption) (by omega) (by omega) _ _ | exact ⟨Q14.out.1, Q14.out.2.1, Q24.out.1, Q24.out.2.1⟩ | exact ⟨Q13.out.1, Q13.out.2.1, Q23.out.1, Q23.out.2.1⟩ | exact R13.out)
    (first | (go_at_call 40; refine (l02Draw_any w0.heap.size A n cap 16 xs w0 _ H3.out HX.out (by omega) (Nat.le_refl _)).mono ?_; rintro e w4 ⟨⟨x3, y3, rfl, hd3⟩, hs4, hk4⟩; have D3 := Lib.hid hd3; have HB4 := Lib.hid hs4.2; have Q14 := Lib.hid (Q13.out.kg hk4 (by omega)); have Q24 := Lib.hid (Q23.out.kg hk4 (by omega)); obtain ⟨a0, a1, g0, g1⟩ := P13.out.kg hk4 (by omega); obtain ⟨a2, a3, g2, g3⟩ := P23.out.kg hk4 (by omega); obtain ⟨a4, a5, g4, g5⟩ := P33.out.kg hk4 (by omega); clear hd3 hs4 hk4))
  have hT := s6 (b := w.heap.size) (v0 := .int .i64 x1) (v1 := .int .i64 y1) (v2 := .int .i64 x2) (v3 := .int .i64 y2) (v4 := .int .i64 x3) (v5 := .int .i64 y3) a0 a1 a2 a3 a4 a5
  have hBf : Below w.heap.size w ((((((w4.setCell ⟨w.heap.size, 0, none⟩ (.int .i64 x1)).setCell ⟨w.heap.size, 1, none⟩ (.int .i64 y1)).setCell ⟨w.heap.size + 1, 0, none⟩ (.int .i64 x2)).setCell ⟨w.heap.size + 1, 1, none⟩ (.int .i64 y2)).setCell ⟨w.heap.size + 1 + 1, 0, none⟩ (.int .i64 x3)).setCell ⟨w.heap.size + 1 + 1, 1, none⟩ (.int .i64 y3)) := ((((((hB0.trans (HB4.out.mono (by omega))).setCell (p := ⟨w.heap.size, 0, none⟩) (Nat.le_refl _) _).setCell (p := ⟨w.heap.size, 1, none⟩) (Nat.le_refl _) _).setCell (p := ⟨w.heap.size + 1, 0, none⟩) (by simp) _).setCell (p := ⟨w.heap.size + 1, 1, none⟩) (by simp) _).setCell (p := ⟨w.heap.size + 1 + 1, 0, none⟩) (by simp; omega) _).setCell (p := ⟨w.heap.size + 1 + 1, 1, none⟩) (by simp; omega) _
  generalize ((((((w4.setCell ⟨w.heap.size, 0, none⟩ (.int .i64 x1)).setCell ⟨w.heap.size, 1, none⟩ (.int .i64 y1)).setCell ⟨w.heap.size + 1, 0, none⟩ (.int .i64 x2)).setCell ⟨w.heap.size + 1, 1, none⟩ (.int .i64 y2)).setCell ⟨w.heap.size + 1 + 1, 0, none⟩ (.int .i64 x3)).setCell ⟨w.heap.size + 1 + 1, 1, none⟩ (.int .i64 y3)) = wf at hT hBf ⊢
  obtain ⟨t0, t1, t2, t3, t4, t5⟩ := hT
  clear a0 a1 a2 a3 a4 a5 g0 g1 g2 g3 g4 g5
  go_wp2_with fail
  exact bodyPost_ret (v := .tuple #[.agg #[.int .i64 x1, .int .i64 y1], .agg #[.int .i64 x2, .int .i64 y2], .agg #[.int .i64 x3, .int .i64 y3]]) (by simp [results, Tryz.results6, go_sem, t0, t1, t2, t3, t4, t5]) rfl ⟨⟨x1, y1, x2, y2, x3, y3, rfl, D1.out, D2.out, D3.out⟩, hBf⟩
end Go.Proofs.YtlpglibnjmjjkaaGreatDoor
namespace Go.Proofs.YtlpglibnjmjjkaaGreatDoor
open Go.RowKit
set_option linter.unusedVariables false
theorem long_any (A B : Option Addr) (n cap m cap' : Nat) (w : World) (hn : n ≤ 9223372036854775807) (hm : m ≤ 9223372036854775807) : Calls Tryz.prog 5 #[.slice A n cap, .slice B m cap'] w fun e w' => e = .returned (.bool (decide ((3000 : Int) < n) || decide ((3000 : Int) < m))) ∧ w = w' := by
  by_cases h : (3000 : Int) < n
  · rw [decide_eq_true h]
    go_enter Tryz.func5, Tryz.ntmps5
    go_wp2_with fail
    go_ret
    exact ⟨rfl, rfl⟩
  · rw [decide_eq_false h]
    have h' : decide ((3000 : Int) < n) = false := decide_eq_false h
    by_cases k : (3000 : Int) < m
    · rw [decide_eq_true k]
      go_enter Tryz.func5, Tryz.ntmps5
      go_wp2_with fail
      go_ret
      exact ⟨rfl, rfl⟩
    · rw [decide_eq_false k]
      have k' : decide ((3000 : Int) < m) = false := decide_eq_false k
      go_enter Tryz.func5, Tryz.ntmps5
      go_wp2_with fail
      go_ret
      exact ⟨rfl, rfl⟩
theorem f6big_any (A : Option Addr) (n cap : Nat) (w : World) (hn : n ≤ 9223372036854775807) : Calls Tryz.prog 17 #[.slice A n cap] w fun e w' => e = .returned (.bool (decide ((4096 : Int) < n))) ∧ w = w' := by
  by_cases h : (4096 : Int) < n
  · rw [decide_eq_true h]
    go_enter Tryz.func17, Tryz.ntmps17
    go_wp2_with fail
    go_ret
    exact ⟨rfl, rfl⟩
  · rw [decide_eq_false h]
    have h' : decide ((4096 : Int) < n) = false := decide_eq_false h
    go_enter Tryz.func17, Tryz.ntmps17
    go_wp2_with fail
    go_ret
    exact ⟨rfl, rfl⟩
end Go.Proofs.YtlpglibnjmjjkaaGreatDoor
namespace Go.Proofs.YtlpglibnjmjjkaaGreatDoor
open Go.ChangeShapes Go.WideShapes Go.ChangeAt Go.RowKit
set_option linter.unusedVariables false
theorem bounds_u8 {z : Int} (h : (Lit.int .u8 z).wf = true) : 0 ≤ z ∧ z ≤ 255 := by
  simp [Lit.wf, IntKind.min, IntKind.max, IntKind.signed, IntKind.bits] at h
  omega
section
variable {H : Type} {enc : TypeId × Value → H} {P : Program} {W : World}
/-- An argument []byte, opened. -/
theorem isBRow_of {t e : TypeId} {a : Option Addr} {len cap : Nat} {d : DataW H} {p : List MemPlace} (ht : P.underlying t = some (.slice e)) (he : P.underlying e = some (.int .u8)) (hc : P.cellsOf e = 1)
    (h : DataW.Trod enc P W 0 (fun _ => true) true t (.slice a len cap) d p) : ∃ zs, BRow W a len zs := by
  obtain ⟨fuel, hf⟩ := h
  rcases open_ints ht he hc hf with ⟨hcs, _⟩ | ⟨x, l, c, zs, hcs, _, hl, hm, hz, _, hcell, hwz⟩
  · simp [Value.cells] at hcs
    obtain ⟨rfl, rfl, rfl⟩ := hcs
    exact ⟨[], rfl, by omega, by simp, Rd.nil⟩
  · simp [Value.cells] at hcs
    obtain ⟨rfl, rfl, rfl⟩ := hcs
    simp only [if_true] at hz
    refine ⟨zs.take len, by rw [List.length_take]; omega, by unfold maxLen at hm; omega, fun z hz' => bounds_u8 (hwz z (List.mem_of_mem_take hz')), fun j u hu => ?_⟩
    rw [List.getElem?_map, List.getElem?_take] at hu
    split at hu
    · rename_i hj
      have hjl : j < zs.length := by omega
      have hh := hcell j hjl
      rw [List.getElem?_eq_getElem hjl] at hu
      simp at hu
      subst hu
      exact ⟨_, rfl, by simpa [hjl] using hh⟩
    · simp at hu
end
end Go.Proofs.YtlpglibnjmjjkaaGreatDoor
namespace Go.Proofs.YtlpglibnjmjjkaaGreatDoor
open Go.Lib
set_option linter.unusedVariables false

/-- The terms behind the second one. -/
def tlL : List Int → List UInt8
  | [] => []
  | n :: r => [44, 32] ++ itoa n ++ tlL r
/-- The terms behind the first one. -/
def bodL : List Int → List UInt8
  | [] => []
  | n :: r => [59, 32] ++ itoa n ++ tlL r
/-- The text of terms. -/
def txL : List Int → List UInt8
  | [] => []
  | z :: r => 91 :: (itoa z ++ bodL r) ++ [93]
theorem tlL_app : ∀ (r s : List Int), tlL (r ++ s) = tlL r ++ tlL s
  | [], s => rfl
  | n :: r, s => by
    show [44, 32] ++ itoa n ++ tlL (r ++ s) = [44, 32] ++ itoa n ++ tlL r ++ tlL s
    rw [tlL_app r s, List.append_assoc ([44, 32] ++ itoa n)]
theorem tlL_one (z : Int) : tlL [z] = [44, 32] ++ itoa z := by show [44, 32] ++ itoa z ++ [] = _; rw [List.append_nil]
theorem bodL_one (z : Int) : bodL [z] = [59, 32] ++ itoa z := by show [59, 32] ++ itoa z ++ [] = _; rw [List.append_nil]
theorem bodL_app (y : Int) (r s : List Int) : bodL (y :: r ++ s) = bodL (y :: r) ++ tlL s := by
  show [59, 32] ++ itoa y ++ tlL (r ++ s) = [59, 32] ++ itoa y ++ tlL r ++ tlL s
  rw [tlL_app, List.append_assoc ([59, 32] ++ itoa y)]
theorem join_cons (x y : List UInt8) (r : List (List UInt8)) (sep : List UInt8) : join (x :: y :: r) sep = x ++ sep ++ join (y :: r) sep := by
  unfold join
  rw [List.intercalate_cons_cons]
theorem join_tl : ∀ (r : List Int) (y : Int), join ((y :: r).map itoa) [44, 32] = itoa y ++ tlL r
  | [], y => by unfold join; simp [tlL]
  | z :: r, y => by
    rw [List.map_cons, List.map_cons, join_cons, ← List.map_cons, join_tl r z]
    show _ = itoa y ++ ([44, 32] ++ itoa z ++ tlL r)
    simp
theorem tlL_len : ∀ (r : List Int), (∀ z ∈ r, Rng z) → (tlL r).length ≤ 23 * r.length
  | [], _ => Nat.le_refl _
  | n :: r, h => by
    have h1 := itoa_length_le n (h n (by simp)).1 (h n (by simp)).2
    have h2 := tlL_len r (fun z hz => h z (by simp [hz]))
    show ([44, 32] ++ itoa n ++ tlL r).length ≤ _
    rw [List.length_append, List.length_append, List.length_cons]
    simp; omega
/-- The text so far: k terms. -/
def pfL (zs : List Int) (k : Nat) : List UInt8 := 91 :: (itoa (zs.headD 0) ++ bodL (zs.tail.take (k - 1)))
theorem pfL_one (zs : List Int) : pfL zs 1 = 91 :: itoa (zs.headD 0) := by unfold pfL; simp [bodL]
theorem pfL_step {zs : List Int} {k : Nat} {z : Int} (hk : 1 ≤ k) (hz : zs[k]? = some z) : pfL zs (k + 1) = pfL zs k ++ (if k = 1 then [59, 32] else [44, 32]) ++ itoa z := by
  have hz' : zs.tail[k - 1]? = some z := by rw [List.getElem?_tail, show k - 1 + 1 = k by omega]; exact hz
  have ht : zs.tail.take (k + 1 - 1) = zs.tail.take (k - 1) ++ [z] := by
    rw [show k + 1 - 1 = k - 1 + 1 by omega, List.take_add_one, hz']; rfl
  unfold pfL
  rw [ht]
  by_cases h1 : k = 1
  · subst h1
    simp [bodL, tlL]
  · rw [if_neg h1]
    have hl : k - 1 ≤ zs.tail.length := by
      rcases Nat.lt_or_ge (k - 1) zs.tail.length with h | h
      · omega
      · rw [List.getElem?_eq_none h] at hz'; cases hz'
    match hm : zs.tail.take (k - 1) with
    | [] =>
      have := congrArg List.length hm
      rw [List.length_take, List.length_nil] at this
      omega
    | y :: r =>
      rw [bodL_app, tlL_one]; simp
theorem pfL_all {zs : List Int} {k : Nat} (hk : 1 ≤ k) (hl : zs.length = k) : txL zs = pfL zs k ++ [93] := by
  match zs, hl with
  | z :: r, hl =>
    unfold pfL
    rw [List.take_of_length_le (by simp at hl; simp; omega)]
    rfl
  | [], hl => simp at hl; omega
end Go.Proofs.YtlpglibnjmjjkaaGreatDoor
namespace Go.Proofs.YtlpglibnjmjjkaaGreatDoor
open Go.RowKit
set_option linter.unusedVariables false
set_option linter.unusedSimpArgs false
attribute [local go_sem ↓] Go.wp_at_zero Go.wp_at_succ

theorem decS_size {n : Int} (h0 : -9223372036854775808 ≤ n) (h1 : n ≤ 9223372036854775807) : (decS n).size ≤ 21 := by
  have := Lib.itoa_length_le n h0 h1
  show (Lib.itoa n).toArray.size ≤ 21
  simpa using this
theorem size_app (a b : ByteArray) : (a ++ b).size = a.size + b.size := by simp
/-- The text of a fraction. -/
def frS (p q : Int) : ByteArray := if vfB p q = true then (if q = 1 then decS p else decS p ++ ⟨#[47]⟩ ++ decS q) else ⟨#[]⟩
section
variable {w W w1 : World} {p q : Int}
theorem one_keep (h : W.cell? ⟨w.heap.size, 0, none⟩ = some (.int .i64 p) ∧ W.cell? ⟨w.heap.size, 1, none⟩ = some (.int .i64 q) ∧ Below w.heap.size w W ∧ w.heap.size < W.heap.size) (hb : Below W.heap.size W w1) :
    w1.cell? ⟨w.heap.size, 0, none⟩ = some (.int .i64 p) ∧ w1.cell? ⟨w.heap.size, 1, none⟩ = some (.int .i64 q) ∧ Below w.heap.size w w1 ∧ w.heap.size < w1.heap.size := by
  obtain ⟨h1, h2, h3, h4⟩ := h
  exact ⟨(hb.cell (p := ⟨w.heap.size, 0, none⟩) h4).trans h1, (hb.cell (p := ⟨w.heap.size, 1, none⟩) h4).trans h2, h3.trans (hb.mono h3.size), Nat.lt_of_lt_of_le h4 hb.size⟩
theorem one_drew (h : W.cell? ⟨w.heap.size, 0, none⟩ = some (.int .i64 p) ∧ W.cell? ⟨w.heap.size, 1, none⟩ = some (.int .i64 q) ∧ Below w.heap.size w W ∧ w.heap.size < W.heap.size) :
    W.drew.cell? ⟨w.heap.size, 0, none⟩ = some (.int .i64 p) ∧ W.drew.cell? ⟨w.heap.size, 1, none⟩ = some (.int .i64 q) ∧ Below w.heap.size w W.drew ∧ w.heap.size < W.drew.heap.size := ⟨h.1, h.2.1, h.2.2.1.drew, h.2.2.2⟩
theorem one_start (w : World) (p q : Int) (t : TypeId) : (w.alloc (.cells #[.int .i64 p, .int .i64 q] t)).cell? ⟨w.heap.size, 0, none⟩ = some (.int .i64 p) ∧ (w.alloc (.cells #[.int .i64 p, .int .i64 q] t)).cell? ⟨w.heap.size, 1, none⟩ = some (.int .i64 q) ∧ Below w.heap.size w (w.alloc (.cells #[.int .i64 p, .int .i64 q] t)) ∧ w.heap.size < (w.alloc (.cells #[.int .i64 p, .int .i64 q] t)).heap.size :=
  ⟨newcellA rfl rfl, newcellA rfl rfl, (Below.refl _ _).alloc (Nat.le_refl _) _, by simp⟩
theorem one_below (h : W.cell? ⟨w.heap.size, 0, none⟩ = some (.int .i64 p) ∧ W.cell? ⟨w.heap.size, 1, none⟩ = some (.int .i64 q) ∧ Below w.heap.size w W ∧ w.heap.size < W.heap.size) : Below w.heap.size w W := h.2.2.1
end

end Go.Proofs.YtlpglibnjmjjkaaGreatDoor
namespace Go.Proofs.YtlpglibnjmjjkaaGreatDoor
open Go.RowKit
set_option linter.unusedVariables false
set_option linter.unusedSimpArgs false
attribute [local go_sem ↓] Go.wp_at_zero Go.wp_at_succ

theorem info_str : (Tryz.prog.info? 9).map (fun i => (i.zero, i.size, i.bytes)) = some (some (.string ByteArray.empty), 1, 16) := by kernel_rfl
/-- The text of terms as a string. -/
def txS (zs : List Int) : ByteArray := if trmB zs = true then ⟨(txL zs).toArray⟩ else ⟨#[]⟩
theorem data_mk (l : List UInt8) : (⟨l.toArray⟩ : ByteArray).data.toList = l := by simp
theorem data_app (a b : ByteArray) : (a ++ b).data.toList = a.data.toList ++ b.data.toList := by simp

theorem join_len {zs : List Int} (h : ∀ z ∈ zs, Rng z) : (Lib.join (zs.map Lib.itoa) [44, 32]).length ≤ 23 * zs.length := by
  cases zs with
  | nil => simp [Lib.join]
  | cons y r =>
    rw [join_tl, List.length_append, List.length_cons]
    have h1 := Lib.itoa_length_le y (h y (by simp)).1 (h y (by simp)).2
    have h2 := tlL_len r (fun z hz => h z (by simp [hz]))
    omega
set_option maxRecDepth 100000 in
set_option maxHeartbeats 3200000 in
theorem decimals_any (A : Option Addr) (n cap : Nat) (zs : List Int) (w : World) (h : IRow w A n zs) (h1 : 1 ≤ n) (hn : n ≤ 1048576) (hd : Dr w) :
    Calls Tryz.prog 53 #[.slice A n cap, .string ⟨#[44, 32]⟩] w fun e w' => e = .returned (.string ⟨(Lib.join (zs.map Lib.itoa) [44, 32]).toArray⟩) ∧ Below w.heap.size w w' := by
  have hlen := Lib.hid h.len
  have HRg := Lib.hid h.2.2.1
  obtain ⟨i0, hi, hz0, hz1, hz2⟩ := info_parts info_str
  have hw := Lib.hid h; clear h
  have HD := Lib.hid hd; clear hd
  go_enter Tryz.func53, Tryz.ntmps53
  go_wp2_with (at_make; refine wpList_make_full _ rfl _ _ 75 rfl w.heap.size 9 i0 (.string ByteArray.empty) 1 Tryz.underlying75 hi hz0 hz1 .i64 .i64 n n n rfl rfl rfl rfl ?c1 ?c2 ?c3 ?_)
  case c1 => rw [hz2]; omega
  case c2 => unfold maxLen; omega
  case c3 => exact Nat.le_refl _
  intro w1 hown hg
  have hb1 : Below w.heap.size w w1 := (Below.refl _ _).grown hg (Nat.le_refl _) (fun k hk => by cases hk)
  have hrow : w1.ownsRow w.heap.size 9 1 (.slice (some ⟨w.heap.size, 0, none⟩) n n) n ((zs.take 0).map (fun z => Value.string (decS z)) ++ List.replicate (n - 0) (.string ByteArray.empty)) := by
    rw [show (zs.take 0).map (fun z => Value.string (decS z)) ++ List.replicate (n - 0) (Value.string ByteArray.empty) = (madeCells #[Value.string ByteArray.empty] n).toList from by rw [toList_madeCells_one]; simp]
    exact hown
  have HRow := Lib.hid hrow
  have HB1 := Lib.hid hb1
  clear hown hg hi hz0 hz1 hz2 hrow hb1
  go_wp2_with fail
  go_loopw [13] (fun i wr => ∃ k : Nat, k ≤ n ∧ i = .int .i64 k ∧ wr.ownsRow w.heap.size 9 1 (.slice (some ⟨w.heap.size, 0, none⟩) n n) n ((zs.take k).map (fun z => Value.string (decS z)) ++ List.replicate (n - k) (.string ByteArray.empty)) ∧ Below w.heap.size w wr) (fun i _ => n - (intOf i).toNat)
  case atStart => exact ⟨0, Nat.zero_le _, rfl, HRow.out, HB1.out⟩
  case round =>
    obtain ⟨k, hk, rfl, hr, hb⟩ := hrel
    by_cases hlt : k < n
    · obtain ⟨ad, z, rfl, hz, z1, z2, hc⟩ := (hw.out.below hb).at_ hlt
      have HZ := Lib.hid hz
      have HO := Lib.hid hr
      have HB := Lib.hid hb
      clear hz hr hb
      go_wp2_with fail
      refine (decimal_any z wr z1 z2 (HD.out.below HB.out)).mono ?_
      rintro e w2 ⟨rfl, hb2⟩
      have hr2 := own_below HO.out hb2
      have hf := hr2.frozenAt k
      have hco : w2.cell? ⟨w.heap.size, k, none⟩ = some (.string ByteArray.empty) := by
        rw [hr2.cellAt k (by omega)]; exact fill_get (fun z => Value.string (decS z)) (.string ByteArray.empty) zs n k hlen.out hlt
      have hst := (hr2.stored k (.string (decS z))).1
      rw [fill_step (fun z => Value.string (decS z)) (.string ByteArray.empty) zs n k z hlen.out hlt HZ.out] at hst
      have hbs : Below w.heap.size w (w2.setCell ⟨w.heap.size, k, none⟩ (.string (decS z))) := (HB.out.trans (hb2.mono HB.out.size)).setCell (p := ⟨w.heap.size, k, none⟩) (Nat.le_refl _) _
      have HS := Lib.hid hst
      have HBS := Lib.hid hbs
      clear hst hr2 hb2 hbs hc
      go_wp2_with fail
      go_roundw
      case rel => exact ⟨k + 1, by omega, by go_num, HS.out, HBS.out⟩
      case measure => simp [intOf]; omega
    · obtain rfl : n = k := by omega
      have hr2 : wr.ownsRow w.heap.size 9 1 (.slice (some ⟨w.heap.size, 0, none⟩) n n) n (zs.map (fun z => Value.string (decS z))) := by
        have e : (zs.take n).map (fun z => Value.string (decS z)) ++ List.replicate (n - n) (Value.string ByteArray.empty) = zs.map (fun z => Value.string (decS z)) := by
          rw [Nat.sub_self, List.take_of_length_le (by have := hlen.out; omega)]; simp
        rw [e] at hr
        exact hr
      have hJ := Tryz.strings_Join w.heap.size 0 n (zs.map decS) ⟨#[44, 32]⟩ wr (fun j x hj => by
          rw [Nat.zero_add, hr2.cellAt j (by have := (List.getElem?_eq_some_iff.1 hj).1; rw [List.length_map, hlen.out] at this; omega), List.getElem?_map]
          rw [List.getElem?_map] at hj
          cases hz : zs[j]? with
          | none => rw [hz] at hj; cases hj
          | some z => rw [hz] at hj; injection hj with hj; rw [← hj]; rfl) (by obtain ⟨g, e, _, hg⟩ := own_some hr2 (by omega); injection e with e; injection e with e; omega) (by rw [List.length_map, hlen.out]; omega) (by rw [List.length_map, hlen.out]; exact Nat.le_refl _)
          (by
            have e : (zs.map decS).map (·.data.toList) = zs.map Lib.itoa := by rw [List.map_map]; exact List.map_congr_left (fun z _ => decS_data z)
            have := join_len HRg.out
            rw [e]
            show (Lib.join (zs.map Lib.itoa) [44, 32]).length ≤ _
            rw [hlen.out] at this; omega)
      have e : (zs.map decS).map (·.data.toList) = zs.map Lib.itoa := by rw [List.map_map]; exact List.map_congr_left (fun z _ => decS_data z)
      rw [e, List.length_map, hlen.out] at hJ
      have HJ := Lib.hid hJ
      have HB := Lib.hid hb
      clear hJ hr hr2 e hb
      go_wp2_with fail
      refine HJ.out.mono ?_
      rintro e w3 ⟨rfl, hb3⟩
      have hBf := HB.out.trans (hb3.mono HB.out.size)
      clear hb3
      go_wp2_with fail
      go_ret
      exact ⟨rfl, hBf⟩
set_option maxRecDepth 100000 in
set_option maxHeartbeats 3200000 in
theorem implTtx_any (A : Option Addr) (n cap : Nat) (zs : List Int) (w : World) (h : IRow w A n zs) (hcap : n ≤ cap) (hd : Dr w) :
    Calls Tryz.prog 13 #[.slice A n cap] w fun e w' => e = .returned (.string (txS zs)) ∧ Below w.heap.size w w' := by
  have HV := Lib.hid (validTerms_any A n cap zs w h hcap)
  cases hv : trmB zs
  · rw [show txS zs = ⟨#[]⟩ from if_neg (by rw [hv]; decide)]
    rw [hv] at HV
    go_enter Tryz.func13, Tryz.ntmps13
    go_wp2_with fail
    refine HV.out.mono ?_
    rintro e w' ⟨rfl, rfl⟩
    go_wp2_with fail
    go_ret
    exact ⟨rfl, Below.refl _ _⟩
  · obtain ⟨t1, t2, _⟩ := trmB_iff.1 hv
    rw [h.len] at t1 t2
    rw [show txS zs = ⟨(txL zs).toArray⟩ from if_pos hv]
    rw [hv] at HV
    obtain ⟨ad, z, rfl, hz, z1, z2, hc⟩ := h.at_ (k := 0) (by omega)
    rw [addr_nil] at hc
    have hs1 : (decS z).size ≤ 21 := decS_size z1 z2
    have HZ := Lib.hid hz
    have HW := Lib.hid h
    have HD := Lib.hid hd
    have HL := Lib.hid h.len
    clear h hz hd hv
    rcases (by omega : n = 1 ∨ 2 ≤ n) with hn | hn
    · subst hn
      have HE := Lib.hid (show txL zs = 91 :: (Lib.itoa z) ++ [93] by
        match zs, HZ.out, HL.out with
        | [a], e, _ => simp at e; subst e; show 91 :: (Lib.itoa a ++ []) ++ [93] = _; rw [List.append_nil])
      go_enter Tryz.func13, Tryz.ntmps13
      go_wp2_with fail
      refine HV.out.mono ?_
      rintro e w' ⟨rfl, rfl⟩
      go_wp2_with fail
      refine (decimal_any z w z1 z2 HD.out).mono ?_
      rintro e w1 ⟨rfl, hb1⟩
      have HB := Lib.hid hb1
      clear hb1 hc
      go_wp2_with fail
      go_ret
      exact ⟨ret_str (str_ext (by rw [data_app, data_app, decS_data, data_mk, HE.out]; rfl)), HB.out⟩
    · have HJ := Lib.hid (show ∃ y r, zs = z :: y :: r by
        match zs, HZ.out, HL.out with
        | a :: y :: r, e, _ => simp at e; exact ⟨y, r, by rw [e]⟩
        | [a], _, e => simp at e; omega)
      have HT := Lib.hid (show Lib.join (zs.tail.map Lib.itoa) [44, 32] = Lib.itoa (zs.tail.headD 0) ++ tlL zs.tail.tail by
        obtain ⟨y, r, e⟩ := HJ.out
        rw [e]; exact join_tl r y)
      have hjl : (⟨(Lib.join (zs.tail.map Lib.itoa) [44, 32]).toArray⟩ : ByteArray).size ≤ 23 * 60 := by
        have := join_len (zs := zs.tail) (fun x hx => HW.out.2.2.1 x (List.mem_of_mem_tail hx))
        rw [List.length_tail, HL.out] at this
        show (Lib.join (zs.tail.map Lib.itoa) [44, 32]).toArray.size ≤ _
        rw [List.size_toArray]; omega
      have HX := Lib.hid (show txL zs = 91 :: (Lib.itoa z) ++ ([59, 32] ++ Lib.join (zs.tail.map Lib.itoa) [44, 32]) ++ [93] by
        rw [HT.out]
        obtain ⟨y, r, e⟩ := HJ.out
        rw [e]
        show 91 :: (Lib.itoa z ++ ([59, 32] ++ Lib.itoa y ++ tlL r)) ++ [93] = 91 :: Lib.itoa z ++ ([59, 32] ++ (Lib.itoa y ++ tlL r)) ++ [93]
        simp)
      have ht := HW.out.tail (show 1 ≤ n by omega) cap hcap
      have hc1 : cap ≠ 1 := by omega
      rw [if_neg hc1] at ht
      have HTl := Lib.hid (show IRow w (some ⟨ad.block, ad.off + 1, none⟩) (n - 1) zs.tail from ht)
      have HDc := Lib.hid (fun W h d => decimals_any (some ⟨ad.block, ad.off + 1, none⟩) (n - 1) (cap - 1) zs.tail W h (by omega) (by omega) d)
      have hJ2 : (⟨(Lib.join (zs.tail.map Lib.itoa) [44, 32]).toArray⟩ : ByteArray).data.toList = Lib.join (zs.tail.map Lib.itoa) [44, 32] := data_mk _
      generalize (⟨(Lib.join (zs.tail.map Lib.itoa) [44, 32]).toArray⟩ : ByteArray) = J at hjl HDc hJ2
      have HJ2 := Lib.hid hJ2
      clear ht hJ2 HT HJ
      go_enter Tryz.func13, Tryz.ntmps13
      go_wp2_with fail
      refine HV.out.mono ?_
      rintro e w' ⟨rfl, rfl⟩
      go_wp2_with fail
      refine (decimal_any z w z1 z2 HD.out).mono ?_
      rintro e w1 ⟨rfl, hb1⟩
      have HB := Lib.hid hb1
      clear hb1 hc
      go_wp2_with fail
      refine (HDc.out w1 (HTl.out.below HB.out) (HD.out.below HB.out)).mono ?_
      rintro e w2 ⟨rfl, hb2⟩
      have HB2 := Lib.hid (HB.out.trans (hb2.mono HB.out.size))
      clear hb2
      go_wp2_with fail
      go_ret
      exact ⟨ret_str (str_ext (by rw [data_app, data_app, data_app, data_app, decS_data, data_mk, HX.out, HJ2.out]; rfl)), HB2.out⟩
end Go.Proofs.YtlpglibnjmjjkaaGreatDoor
