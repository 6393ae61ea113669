/-
  Continuants do not depend on the direction, and are numerators and denominators: the walk of the law FnContinuants.
  No condition but those of the law's own text.
-/
import Derived.Test.YtdlmjaohacemfaaProg
import Derived.Test.YtdlmjaohacemfaaMem
import Derived.Test.YtdlmjaohacemfaaBasic
import Derived.Test.YtdlmjaohacemfaaAllk
import Derived.Test.YtdlmjaohacemfaaInts
import Derived.Test.YtdlmjaohacemfaaSig
import Derived.Test.YtdlmjaohacemfaaFrac
import Derived.Test.YtdlmjaohacemfaaOwn
import Derived.Test.YtdlmjaohacemfaaTerms
import Derived.Test.YtdlmjaohacemfaaFrac6
import Derived.Test.YtdlmjaohacemfaaCont
import Derived.Test.YtdlmjaohacemfaaCvg
import Derived.Test.YtdlmjaohacemfaaVal
import Derived.Test.YtdlmjaohacemfaaCntM
import Derived.Test.YtdlmjaohacemfaaSrc
import Derived.Test.YtdlmjaohacemfaaDrT
import Derived.Test.YtdlmjaohacemfaaLng
import Derived.Test.YtdlmjaohacemfaaByt
import Derived.Handy
import Derived.BigQuiet
import Derived.Deep.QuietTactic
import Derived.Deep.AppendLies
namespace Go.Proofs.Ytdlmjaohacemfaa
open Go.RowKit
set_option linter.unusedVariables false
set_option linter.unusedSimpArgs false
attribute [local go_sem ↓] Go.wp_at_zero Go.wp_at_succ

theorem sum_ge : ∀ l : List Int, (∀ z ∈ l, 1 ≤ z) → (l.length : Int) ≤ l.sum
  | [], _ => by simp
  | z :: r, h => by
    have h1 := h z (by simp)
    have h2 := sum_ge r (fun x hx => h x (by simp [hx]))
    rw [List.sum_cons, List.length_cons]; omega
/-- What the four functions give at few small terms. -/
theorem cnt_facts {zs : List Int} (h1 : 1 ≤ zs.length) (h2 : zs.length ≤ 8) (hz : ∀ z ∈ zs, 1 ≤ z ∧ z ≤ 60) : ∃ N D S : Int, cntR zs = (N, 0) ∧ cntR zs.reverse = (N, 0) ∧ cntR zs.tail = (D, 0) ∧ sumR zs = (S, 0) ∧ ((zs.length : Int) - 1 ≤ S) ∧ (valT zs = (N, D, 0) ∨ ∃ v : Int, v ≠ 0 ∧ valT zs = (0, 0, v)) := by
  have hp : ∀ l : List Int, (∀ z ∈ l, 1 ≤ z ∧ z ≤ 60) → allK posE 0 l = true := fun l hl => by
    have : Upto posE l l.length := fun j z hj hz => by
      obtain ⟨a, b⟩ := hl z (List.mem_of_getElem? hz)
      exact inB_t a (by omega)
    exact this.all (Nat.le_refl _)
  have hr : ∀ z ∈ zs.reverse, 1 ≤ z ∧ z ≤ 60 := fun z hz' => hz z (by simpa using hz')
  have ht : ∀ z ∈ zs.tail, 1 ≤ z ∧ z ≤ 60 := fun z hz' => hz z (List.mem_of_mem_tail hz')
  have htr : trmB zs = true := trmB_iff.2 ⟨h1, by omega, fun k z hk => by
    have := hz z (List.mem_of_getElem? hk)
    split <;> omega⟩
  refine ⟨(cnF 1 0 zs).1, (cnF 1 0 zs.tail).1, zs.tail.sum, cntR_small h2 hz (hp _ hz), ?_, cntR_small (by simp; omega) ht (hp _ ht), if_pos htr, ?_, ?_⟩
  · rw [cntR_small (by simpa using h2) hr (hp _ hr), (cnF_rev zs).1]
  · have := sum_ge zs.tail (fun z hz' => (ht z hz').1)
    rw [List.length_tail] at this
    omega
  · unfold valT
    rw [if_pos htr]
    by_cases hc : cvgB zs = true
    · left
      rw [if_pos hc]
      unfold cvgB at hc
      cases ho : cvgO zs 1 0 0 1 with
      | none => rw [ho] at hc; cases hc
      | some l =>
        have hne : zs ≠ [] := fun e => by rw [e] at h1; simp at h1
        have hl := cvgO_last zs 1 0 0 1 l hne ho
        have hlast : lastP (cvgL zs) = ((cnF 1 0 zs).1, (cnF 0 1 zs).1) := by
          rw [(cvg_some ho).1]
          unfold lastP
          rw [List.getD_eq_getElem?_getD, ← List.getLast?_eq_getElem?, hl]; rfl
        rw [hlast]
        match zs, hne with
        | z :: r, _ =>
          have : cnF 0 1 (z :: r) = cnF 1 0 r := by rw [cnF]; simp
          rw [this]; rfl
    · right
      exact ⟨5, by omega, if_neg hc⟩
theorem rev_step {zs : List Int} {k q : Nat} {z : Int} (hz : zs[q]? = some z) (h : k + q + 1 = zs.length) : zs.reverse.take k ++ [z] = zs.reverse.take (k + 1) := by
  rw [List.take_add_one, List.getElem?_reverse (by omega), show zs.length - 1 - k = q by omega, hz]; rfl
set_option maxRecDepth 100000 in
set_option maxHeartbeats 3200000 in
theorem fnContinuants_walk (w : World) (A : Option Addr) (n cap : Nat) (xs : List Int) (hx : BRow w A n xs) :
    Calls Try.prog 4 #[.slice A n cap] w fun e w' => e = .returned (.bool true) ∧ Below w.heap.size w w' := by
  have hbd := hx.2.1
  have HX := Lib.hid hx
  have HL := Lib.hid (long_any A none n cap 0 0 w hbd (by omega))
  obtain ⟨i0, hi, hz0, hz1, hz2⟩ := info_parts info_i64
  clear hx
  by_cases hn : (3000 : Int) < n
  · rw [decide_eq_true hn] at HL
    go_enter Try.func4, Try.ntmps4
    go_wp2_with fail
    refine HL.out.mono ?_
    rintro e w' ⟨rfl, rfl⟩
    go_wp2_with fail
    go_ret
    exact ⟨rfl, Below.refl _ _⟩
  · rw [decide_eq_false hn] at HL
    go_enter Try.func4, Try.ntmps4
    go_wp2_with fail
    refine HL.out.mono ?_
    rintro e w' ⟨rfl, rfl⟩
    go_wp2_with fail
    refine (a2Terms_any A n cap xs w HX.out).mono ?_
    rintro e w1 ⟨⟨fs, B, c, rfl, ho1, hd, l1, l2⟩, hb1⟩
    obtain ⟨m, hm⟩ : ∃ m, m = fs.length := ⟨_, rfl⟩
    rw [← hm] at ho1 l1 l2 ⊢
    have HM := Lib.hid hm
    clear hm
    obtain ⟨z0, hz0'⟩ : ∃ z, fs[0]? = some z := ⟨_, List.getElem?_eq_getElem (by rw [← HM.out]; omega)⟩
    obtain ⟨g, rfl, hg1, hg2⟩ := own_some ho1 (by omega)
    have hc0 := own_cellI ho1 hz0'
    have hf0 := ho1.frozenAt 0
    have hcap := own_cap ho1
    have HD := Lib.hid hd
    have HZ0 := Lib.hid hz0'
    have HO1 := Lib.hid ho1
    have hsz1 : w.heap.size ≤ w1.heap.size := hb1.size
    have HB1 := Lib.hid hb1
    have hd0 := hd 0 z0 hz0'
    simp only [if_true] at hd0
    obtain ⟨d1, d2⟩ := hd0
    clear ho1 hz0' hd hb1
    have hzz : z0 ≤ 1 ∨ 1 < z0 := by omega
    rcases hzz with hzz | hzz
    · have hlen : (fs.set 0 1).length = m := by rw [List.length_set, HM.out]
      have hall : ∀ z ∈ fs.set 0 1, 1 ≤ z ∧ z ≤ 60 := by
        intro z hz
        obtain ⟨j, hj⟩ := List.getElem?_of_mem hz
        rw [List.getElem?_set] at hj
        split at hj
        · split at hj
          · injection hj with hj; omega
          · cases hj
        · rename_i hj0
          have := HD.out j z hj
          rw [if_neg (by omega)] at this
          exact this
      obtain ⟨N, D, S, k1, k2, k3, k4, k5, k6⟩ := cnt_facts (zs := fs.set 0 1) (by omega) (by omega) hall
      rw [hlen] at k5
      have hown := own_setI HO1.out 0 1
      have hBw := (HB1.out).setCell (p := ⟨g, 0, none⟩) hg1 (.int .i64 1)
      generalize fs.set 0 1 = zs at *
      have HR := Lib.hid (show ∀ z ∈ zs, Rng z from fun z hz => by have := hall z hz; unfold Rng; omega)
      have HR2 := Lib.hid (show ∀ z ∈ zs.reverse, Rng z from fun z hz => HR.out z (by simpa using hz))
      have HLen := Lib.hid hlen
      have HC1 := Lib.hid (fun A' c' W h => implCont_any A' m c' zs W h)
      rw [k1] at HC1
      have HC2 := Lib.hid (fun A' c' W h => implCont_any A' m c' zs.reverse W h)
      rw [k2] at HC2
      have HC3 := Lib.hid (fun A' c' W h => implCont_any A' (m - 1) c' zs.tail W h)
      rw [k3] at HC3
      have HC4 := Lib.hid (fun A' c' W h hc => implSum_any A' m c' zs W h hc)
      rw [k4] at HC4
      have HC5 := Lib.hid (fun A' c' W h hc => specVal_any A' m c' zs W h hc)
      have HI := Lib.hid (IRow.of_own hown (by omega) HR.out)
      have HB2 := Lib.hid hBw
      have K6 := Lib.hid k6
      clear hown hBw hall k1 k2 k3 k4 k6 hlen HO1 HB1
      go_wp2_with fail
      clear hc0 hf0
      have hs2 : (w1.setCell ⟨g, 0, none⟩ (.int .i64 1)).heap.size = w1.heap.size := by simp
      have HO3 := Lib.hid (World.ownsRow_made (e := 2) (size := 1) (w1.setCell ⟨g, 0, none⟩ (.int .i64 1)) #[] 0 (Nat.le_refl _) (by decide) rfl)
      have hg3 : g < (w1.setCell ⟨g, 0, none⟩ (.int .i64 1)).heap.size := by rw [hs2]; exact hg2
      rw [← hs2]
      generalize w1.setCell ⟨g, 0, none⟩ (.int .i64 1) = w2 at *
      clear hs2
      go_loopw [4, 5] (fun l i wr => ∃ (x : Int) (k r c' : Nat) (B' : Option Addr), l = .slice B' k c' ∧ i = .int .i64 x ∧ x + 1 = r ∧ k + r = m ∧
        wr.ownsRow w2.heap.size 2 1 (.slice B' k c') k ((zs.reverse.take k).map (Value.int .i64)) ∧ IRow wr (some ⟨g, 0, none⟩) m zs ∧ Below w2.heap.size w2 wr) (fun _ i _ => (intOf i + 1).toNat)
      case atStart => exact ⟨(m : Int) - 1, 0, m, 0, _, rfl, rfl, by omega, by omega, by simpa using HO3.out, HI.out.alloc _, (Below.refl _ _).alloc (Nat.le_refl _) _⟩
      case round =>
        obtain ⟨x, k, r, c', B', rfl, rfl, hxr, hkr, hown, hrow, hbel⟩ := hrel
        have HB3 := Lib.hid (HB2.out.trans (hbel.mono HB2.out.size))
        by_cases hx0 : x < 0
        · obtain rfl : x = -1 := by omega
          obtain rfl : k = m := by omega
          have ho2 : wr.ownsRow w2.heap.size 2 1 (.slice B' k c') k (zs.reverse.map (Value.int .i64)) := by
            have := hown
            rwa [List.take_of_length_le (by rw [List.length_reverse, HLen.out]; exact Nat.le_refl _)] at this
          have HR4 := Lib.hid (IRow.of_own ho2 (by omega) HR2.out)
          have HR5 := Lib.hid hrow
          have HT := Lib.hid (hrow.tail l1 c hcap)
          clear hown hrow hbel ho2
          go_wp2_with fail
          refine (HC1.out _ c _ HR5.out).mono ?_
          rintro e w' ⟨rfl, rfl⟩
          go_wp2_with fail
          refine (HC2.out _ _ _ HR4.out).mono ?_
          rintro e w' ⟨rfl, rfl⟩
          by_cases hc1 : c = 1
          · have HT1 := Lib.hid (show IRow wr (some ⟨g, 0, none⟩) (k - 1) zs.tail by have := HT.out; rwa [if_pos hc1] at this)
            go_wp2_with fail
            refine (HC3.out _ 0 _ HT1.out).mono ?_
            rintro e w' ⟨rfl, rfl⟩
            go_wp2_with fail
            refine (HC4.out _ _ _ HR5.out (by omega)).mono ?_
            rintro e w' ⟨rfl, rfl⟩
            go_wp2_with fail
            refine (HC5.out _ _ _ HR5.out (by omega)).mono ?_
            rintro e w5 ⟨rfl, hb5⟩
            have HBf := Lib.hid (HB3.out.trans (hb5.mono HB3.out.size))
            rcases K6.out with hv | ⟨v, hv0, hv⟩
            · rw [hv]
              clear hb5
              go_wp2_with fail
              go_ret
              exact ⟨rfl, HBf.out.alloc HBf.out.size _⟩
            · rw [hv]
              clear hb5
              have hv1 : (v != 0) = true := bne_iff_ne.2 hv0
              go_wp2_with fail
              go_ret
              exact ⟨rfl, HBf.out.alloc HBf.out.size _⟩
          · have HT1 := Lib.hid (show IRow wr (some ⟨g, 1, none⟩) (k - 1) zs.tail by have := HT.out; rwa [if_neg hc1, addr_zero] at this)
            go_wp2_with fail
            refine (HC3.out _ (c - 1) _ HT1.out).mono ?_
            rintro e w' ⟨rfl, rfl⟩
            go_wp2_with fail
            refine (HC4.out _ _ _ HR5.out (by omega)).mono ?_
            rintro e w' ⟨rfl, rfl⟩
            go_wp2_with fail
            refine (HC5.out _ _ _ HR5.out (by omega)).mono ?_
            rintro e w5 ⟨rfl, hb5⟩
            have HBf := Lib.hid (HB3.out.trans (hb5.mono HB3.out.size))
            rcases K6.out with hv | ⟨v, hv0, hv⟩
            · rw [hv]
              clear hb5
              go_wp2_with fail
              go_ret
              exact ⟨rfl, HBf.out.alloc HBf.out.size _⟩
            · rw [hv]
              clear hb5
              have hv1 : (v != 0) = true := bne_iff_ne.2 hv0
              go_wp2_with fail
              go_ret
              exact ⟨rfl, HBf.out.alloc HBf.out.size _⟩
        · obtain ⟨q, rfl⟩ := Int.eq_ofNat_of_zero_le (show 0 ≤ x by omega)
          obtain ⟨ad, z, e, hz, z1, z2, hc⟩ := hrow.at_ (k := q) (by omega)
          injection e with e
          subst e
          have LF := Lib.hid hown.lt
          have HRv := Lib.hid (rev_step hz (show k + q + 1 = zs.length by rw [HLen.out]; omega))
          have HO := Lib.hid hown
          have HRow := Lib.hid hrow
          have HBel := Lib.hid hbel
          have hlw : w2.heap.size ≤ wr.heap.size := hbel.size
          have hk8 : k ≤ 8 := by omega
          have hgr : g ≠ wr.heap.size := by omega
          rw [addr_zero] at hc
          clear hown hrow hbel hz
          go_wp2_with (first | (at_builtin; refine wpList_append_lies _ rfl (.tmp 34) (.tmp 39) 34 rfl w2.heap.size 2 i0 (.int .i64 0) 1 8 Try.underlying34 hi hz0 hz1 hz2 rfl (by decide) _ k ((zs.reverse.take k).map (Value.int .i64)) (by rfl) (HO.out.alloc _) ⟨wr.heap.size, 0, none⟩ 1 1 [.int .i64 z] (by rfl) rfl (fun j u hu => newcell (by simp) hu) (by simp [Value.oneCell']) (by decide) (by show k + 1 ≤ 9223372036854775807; omega) (by omega) (by simp; omega) (wr.heap.size + 1) (by simp) ?_; intro g' cap1 wn hown1 hgrow hat hlt1))
          go_roundw
          case rel =>
            refine ⟨(q : Int) - 1, k + 1, q, _, _, rfl, by congr 1, by omega, by omega, by rw [← HRv.out, List.map_append]; exact hown1, ?_, ?_⟩
            · exact (HRow.out.alloc _).grown hgrow (fun ad e he => by injection e with e; subst e; exact absurd (LF.out g he.symm).1 (by omega))
            · exact (HBel.out.alloc HBel.out.size _).grown hgrow (by have := HBel.out.size; simp; omega) (fun k hk => (LF.out k hk).1)
          case measure => simp [intOf] <;> omega
    · have hlen : (fs.set 0 z0).length = m := by rw [List.length_set, HM.out]
      have hall : ∀ z ∈ fs.set 0 z0, 1 ≤ z ∧ z ≤ 60 := by
        intro z hz
        obtain ⟨j, hj⟩ := List.getElem?_of_mem hz
        rw [List.getElem?_set] at hj
        split at hj
        · split at hj
          · injection hj with hj; omega
          · cases hj
        · rename_i hj0
          have := HD.out j z hj
          rw [if_neg (by omega)] at this
          exact this
      obtain ⟨N, D, S, k1, k2, k3, k4, k5, k6⟩ := cnt_facts (zs := fs.set 0 z0) (by omega) (by omega) hall
      rw [hlen] at k5
      have hown := own_setI HO1.out 0 z0
      have hBw := (HB1.out).setCell (p := ⟨g, 0, none⟩) hg1 (.int .i64 z0)
      generalize fs.set 0 z0 = zs at *
      have HR := Lib.hid (show ∀ z ∈ zs, Rng z from fun z hz => by have := hall z hz; unfold Rng; omega)
      have HR2 := Lib.hid (show ∀ z ∈ zs.reverse, Rng z from fun z hz => HR.out z (by simpa using hz))
      have HLen := Lib.hid hlen
      have HC1 := Lib.hid (fun A' c' W h => implCont_any A' m c' zs W h)
      rw [k1] at HC1
      have HC2 := Lib.hid (fun A' c' W h => implCont_any A' m c' zs.reverse W h)
      rw [k2] at HC2
      have HC3 := Lib.hid (fun A' c' W h => implCont_any A' (m - 1) c' zs.tail W h)
      rw [k3] at HC3
      have HC4 := Lib.hid (fun A' c' W h hc => implSum_any A' m c' zs W h hc)
      rw [k4] at HC4
      have HC5 := Lib.hid (fun A' c' W h hc => specVal_any A' m c' zs W h hc)
      have HI := Lib.hid (IRow.of_own hown (by omega) HR.out)
      have HB2 := Lib.hid hBw
      have K6 := Lib.hid k6
      clear hown hBw hall k1 k2 k3 k4 k6 hlen HO1 HB1
      go_wp2_with fail
      clear hc0 hf0
      have hs2 : (w1.setCell ⟨g, 0, none⟩ (.int .i64 z0)).heap.size = w1.heap.size := by simp
      have HO3 := Lib.hid (World.ownsRow_made (e := 2) (size := 1) (w1.setCell ⟨g, 0, none⟩ (.int .i64 z0)) #[] 0 (Nat.le_refl _) (by decide) rfl)
      have hg3 : g < (w1.setCell ⟨g, 0, none⟩ (.int .i64 z0)).heap.size := by rw [hs2]; exact hg2
      rw [← hs2]
      generalize w1.setCell ⟨g, 0, none⟩ (.int .i64 z0) = w2 at *
      clear hs2
      go_loopw [4, 5] (fun l i wr => ∃ (x : Int) (k r c' : Nat) (B' : Option Addr), l = .slice B' k c' ∧ i = .int .i64 x ∧ x + 1 = r ∧ k + r = m ∧
        wr.ownsRow w2.heap.size 2 1 (.slice B' k c') k ((zs.reverse.take k).map (Value.int .i64)) ∧ IRow wr (some ⟨g, 0, none⟩) m zs ∧ Below w2.heap.size w2 wr) (fun _ i _ => (intOf i + 1).toNat)
      case atStart => exact ⟨(m : Int) - 1, 0, m, 0, _, rfl, rfl, by omega, by omega, by simpa using HO3.out, HI.out.alloc _, (Below.refl _ _).alloc (Nat.le_refl _) _⟩
      case round =>
        obtain ⟨x, k, r, c', B', rfl, rfl, hxr, hkr, hown, hrow, hbel⟩ := hrel
        have HB3 := Lib.hid (HB2.out.trans (hbel.mono HB2.out.size))
        by_cases hx0 : x < 0
        · obtain rfl : x = -1 := by omega
          obtain rfl : k = m := by omega
          have ho2 : wr.ownsRow w2.heap.size 2 1 (.slice B' k c') k (zs.reverse.map (Value.int .i64)) := by
            have := hown
            rwa [List.take_of_length_le (by rw [List.length_reverse, HLen.out]; exact Nat.le_refl _)] at this
          have HR4 := Lib.hid (IRow.of_own ho2 (by omega) HR2.out)
          have HR5 := Lib.hid hrow
          have HT := Lib.hid (hrow.tail l1 c hcap)
          clear hown hrow hbel ho2
          go_wp2_with fail
          refine (HC1.out _ c _ HR5.out).mono ?_
          rintro e w' ⟨rfl, rfl⟩
          go_wp2_with fail
          refine (HC2.out _ _ _ HR4.out).mono ?_
          rintro e w' ⟨rfl, rfl⟩
          by_cases hc1 : c = 1
          · have HT1 := Lib.hid (show IRow wr (some ⟨g, 0, none⟩) (k - 1) zs.tail by have := HT.out; rwa [if_pos hc1] at this)
            go_wp2_with fail
            refine (HC3.out _ 0 _ HT1.out).mono ?_
            rintro e w' ⟨rfl, rfl⟩
            go_wp2_with fail
            refine (HC4.out _ _ _ HR5.out (by omega)).mono ?_
            rintro e w' ⟨rfl, rfl⟩
            go_wp2_with fail
            refine (HC5.out _ _ _ HR5.out (by omega)).mono ?_
            rintro e w5 ⟨rfl, hb5⟩
            have HBf := Lib.hid (HB3.out.trans (hb5.mono HB3.out.size))
            rcases K6.out with hv | ⟨v, hv0, hv⟩
            · rw [hv]
              clear hb5
              go_wp2_with fail
              go_ret
              exact ⟨rfl, HBf.out.alloc HBf.out.size _⟩
            · rw [hv]
              clear hb5
              have hv1 : (v != 0) = true := bne_iff_ne.2 hv0
              go_wp2_with fail
              go_ret
              exact ⟨rfl, HBf.out.alloc HBf.out.size _⟩
          · have HT1 := Lib.hid (show IRow wr (some ⟨g, 1, none⟩) (k - 1) zs.tail by have := HT.out; rwa [if_neg hc1, addr_zero] at this)
            go_wp2_with fail
            refine (HC3.out _ (c - 1) _ HT1.out).mono ?_
            rintro e w' ⟨rfl, rfl⟩
            go_wp2_with fail
            refine (HC4.out _ _ _ HR5.out (by omega)).mono ?_
            rintro e w' ⟨rfl, rfl⟩
            go_wp2_with fail
            refine (HC5.out _ _ _ HR5.out (by omega)).mono ?_
            rintro e w5 ⟨rfl, hb5⟩
            have HBf := Lib.hid (HB3.out.trans (hb5.mono HB3.out.size))
            rcases K6.out with hv | ⟨v, hv0, hv⟩
            · rw [hv]
              clear hb5
              go_wp2_with fail
              go_ret
              exact ⟨rfl, HBf.out.alloc HBf.out.size _⟩
            · rw [hv]
              clear hb5
              have hv1 : (v != 0) = true := bne_iff_ne.2 hv0
              go_wp2_with fail
              go_ret
              exact ⟨rfl, HBf.out.alloc HBf.out.size _⟩
        · obtain ⟨q, rfl⟩ := Int.eq_ofNat_of_zero_le (show 0 ≤ x by omega)
          obtain ⟨ad, z, e, hz, z1, z2, hc⟩ := hrow.at_ (k := q) (by omega)
          injection e with e
          subst e
          have LF := Lib.hid hown.lt
          have HRv := Lib.hid (rev_step hz (show k + q + 1 = zs.length by rw [HLen.out]; omega))
          have HO := Lib.hid hown
          have HRow := Lib.hid hrow
          have HBel := Lib.hid hbel
          have hlw : w2.heap.size ≤ wr.heap.size := hbel.size
          have hk8 : k ≤ 8 := by omega
          have hgr : g ≠ wr.heap.size := by omega
          rw [addr_zero] at hc
          clear hown hrow hbel hz
          go_wp2_with (first | (at_builtin; refine wpList_append_lies _ rfl (.tmp 34) (.tmp 39) 34 rfl w2.heap.size 2 i0 (.int .i64 0) 1 8 Try.underlying34 hi hz0 hz1 hz2 rfl (by decide) _ k ((zs.reverse.take k).map (Value.int .i64)) (by rfl) (HO.out.alloc _) ⟨wr.heap.size, 0, none⟩ 1 1 [.int .i64 z] (by rfl) rfl (fun j u hu => newcell (by simp) hu) (by simp [Value.oneCell']) (by decide) (by show k + 1 ≤ 9223372036854775807; omega) (by omega) (by simp; omega) (wr.heap.size + 1) (by simp) ?_; intro g' cap1 wn hown1 hgrow hat hlt1))
          go_roundw
          case rel =>
            refine ⟨(q : Int) - 1, k + 1, q, _, _, rfl, by congr 1, by omega, by omega, by rw [← HRv.out, List.map_append]; exact hown1, ?_, ?_⟩
            · exact (HRow.out.alloc _).grown hgrow (fun ad e he => by injection e with e; subst e; exact absurd (LF.out g he.symm).1 (by omega))
            · exact (HBel.out.alloc HBel.out.size _).grown hgrow (by have := HBel.out.size; simp; omega) (fun k hk => (LF.out k hk).1)
          case measure => simp [intOf] <;> omega
end Go.Proofs.Ytdlmjaohacemfaa
