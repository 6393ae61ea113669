/-
  The laws of expansions: the walk of the law FnExpansions.
  Conditions: those of the law's own text, and that the package-level variables hold what the program's text lays in them.
-/
import Derived.Test.YtlpglibnjmjjkaaGreatDoorProg
import Derived.Test.YtlpglibnjmjjkaaGreatDoorE01
import Derived.Test.YtlpglibnjmjjkaaGreatDoorE02
import Derived.Test.YtlpglibnjmjjkaaGreatDoorE03
import Derived.Test.YtlpglibnjmjjkaaGreatDoorE04
import Derived.Test.YtlpglibnjmjjkaaGreatDoorE05
import Derived.Test.YtlpglibnjmjjkaaGreatDoorE06
import Derived.Handy
import Derived.BigQuiet
import Derived.Deep.QuietTactic
import Derived.Deep.RegionHeld3
import Derived.Deep.DrawnRows
import Derived.StillTailTactics
namespace Go.Proofs.YtlpglibnjmjjkaaGreatDoor
open Go.RowKit
set_option linter.unusedVariables false
set_option linter.unusedSimpArgs false
attribute [local go_sem ↓] Go.wp_at_zero Go.wp_at_succ

set_option maxRecDepth 100000 in
set_option maxHeartbeats 3200000 in
theorem fnExpansions_walk (w : World) (A : Option Addr) (n cap : Nat) (xs : List Int) (hx : BRow w A n xs) (hd : Dr w) (he : Er w) (hm : Mx w) :
    Calls Tryz.prog 3 #[.slice A n cap] w fun e w' => e = .returned (.bool true) ∧ Below w.heap.size w w' := by
  have hbd := hx.2.1
  have HX := Lib.hid hx
  have HD := Lib.hid hd
  have HE := Lib.hid he
  have HM := Lib.hid hm
  have HL := Lib.hid (long_any A none n cap 0 0 w hbd (by omega))
  clear hx hd he hm
  cases hn : (decide ((3000 : Int) < n) || decide ((3000 : Int) < ((0 : Nat) : Int)))
  · rw [hn] at HL
    clear hn
    go_enter Tryz.func3, Tryz.ntmps3
    go_wp2_with fail
    refine HL.out.mono ?_
    rintro e w' ⟨rfl, rfl⟩
    go_wp2_with fail
    refine (a2Fractions_any A n cap xs w HX.out).mono ?_
    rintro e w1 ⟨⟨x, y, r, s, x3, y3, rfl, ⟨v1, p1, p2, q2⟩, _, _⟩, hb1⟩
    have HB1 := Lib.hid hb1
    obtain ⟨L, O, all, m, e1, e2, hmL, hm2, t1, hl1, e3, e4, e5, t2, e6, e7, e8, e9, e10, hal, hva, hnb, hla, hcm⟩ := exps v1 p1 p2 q2
    obtain ⟨N, hN⟩ : ∃ N, N = m + 1 := ⟨_, rfl⟩
    rw [← hN] at hmL hal
    obtain ⟨K, hK⟩ : ∃ K, O.length = K := ⟨_, rfl⟩
    have hKb := (trmB_iff.1 t2).2.1
    rw [hK] at hKb
    have hNb : 1 ≤ N ∧ N ≤ 60 := by omega
    have hLr : ∀ z ∈ L, Rng z := by rw [← e1]; exact expL_rng x y
    have hOr : ∀ z ∈ O, Rng z := by rw [← e4]; exact otfL_rng L
    have HEx := fun W => implExpand_any x y W
    unfold ResI at HEx
    rw [e1, e2, hmL] at HEx
    have HVd := fun A c W h => specValidTerms_any A N c L W h
    rw [t1] at HVd
    have HVL := fun A c W h hc => implVal_any A N c L W h hc
    rw [e3] at HVL
    have HOL := fun A c W h hc => implOtf_any A N c L W h hc
    unfold ResI at HOL
    rw [e4, e5, hK] at HOL
    have HVO := fun A c W h hc => implVal_any A K c O W h hc
    rw [e6] at HVO
    have HOO := fun A c W h hc => implOtf_any A K c O W h hc
    unfold ResI at HOO
    rw [e7, e8, hmL] at HOO
    have HCv := fun A c W h hc => implCvf_any A N c L W h hc
    unfold ResF at HCv
    rw [e9, e10, hal] at HCv
    have HCm := fun A c A' c' W h h' => implCommon_any A N c A' K c' L O W h h'
    rw [hcm] at HCm
    have HGd : Gd (txS L) L := ⟨t1, by rw [show txS L = ⟨(txL L).toArray⟩ from if_pos t1, data_mk]⟩
    have hts : (txS L).size ≤ 1048576 := txS_size t1 hLr
    have HTx := fun A c W h hc d => implTtx_any A N c L W h hc d
    have HRt := fun W d e m => implRtm_any (txS L) W hts d e m L true (.inl ⟨rfl, HGd⟩)
    unfold ResT at HRt
    rw [hmL] at HRt
    generalize txS L = tt at *
    replace HEx := Lib.hid HEx
    replace HVd := Lib.hid HVd
    replace HVL := Lib.hid HVL
    replace HOL := Lib.hid HOL
    replace HVO := Lib.hid HVO
    replace HOO := Lib.hid HOO
    replace HCv := Lib.hid HCv
    replace HCm := Lib.hid HCm
    replace HTx := Lib.hid HTx
    replace HRt := Lib.hid HRt
    have HLr := Lib.hid hLr
    have HOr := Lib.hid hOr
    have HVa := Lib.hid hva
    have HNb := Lib.hid hnb
    have HLa := Lib.hid hla
    have HL1 := Lib.hid hl1
    have HN := Lib.hid hN
    have HmL := Lib.hid hmL
    have HAl := Lib.hid hal
    clear e1 e2 e3 e4 e5 e6 e7 e8 e9 e10 t1 t2 hLr hOr hva hnb hla hl1 hN hmL hal hK hcm v1 HGd hts hb1
    go_wp2_with fail
    have PA0 : Pr (((w1.alloc (.cells #[.int .i64 x, .int .i64 y] 25)).alloc (.cells #[.int .i64 r, .int .i64 s] 25)).alloc (.cells #[.int .i64 x3, .int .i64 y3] 25)) w1.heap.size x y := ((Pr.new w1 x y 25).below ((Below.refl _ _).alloc (Nat.le_refl _) _)).below ((Below.refl _ _).alloc (Nat.le_refl _) _)
    have HB0 : Below w.heap.size w (((w1.alloc (.cells #[.int .i64 x, .int .i64 y] 25)).alloc (.cells #[.int .i64 r, .int .i64 s] 25)).alloc (.cells #[.int .i64 x3, .int .i64 y3] 25)) := ((HB1.out.alloc HB1.out.size _).alloc (by have := HB1.out.size; simp; omega) _).alloc (by have := HB1.out.size; simp; omega) _
    refine (HEx.out _).mono ?_
    rintro e w2 ⟨⟨A0, c0, rfl, oL⟩, hb⟩
    have PA2 := Lib.hid (PA0.below hb)
    have HB2 := Lib.hid (HB0.trans (hb.mono HB0.size))
    have oL2 := Lib.hid oL
    have hrow := IRow.of_own oL (by omega) HLr.out
    obtain ⟨ad, z, rfl, hz, z1, z2, hc⟩ := hrow.at_ (k := N - 1) (by omega)
    have HRow := Lib.hid hrow
    have hcL := own_cap oL
    have hsp : (N = 1) ∨ (2 ≤ N ∧ z ≠ 1) := by
      rcases (by omega : N = 1 ∨ 2 ≤ N) with h | h
      · exact .inl h
      · refine .inr ⟨h, fun e => ?_⟩
        have := HL1.out (by have := HN.out; omega)
        rw [show m = N - 1 by have := HN.out; omega, hz, e] at this
        exact this rfl
    have Hz := Lib.hid hz
    clear hb PA0 HB0 oL hrow hz HEx
    rcases hsp with hN1 | ⟨hN2, hz1⟩
    · have hgt : ¬ (1 : Int) < (N : Int) := by omega
      replace hN1 := Lib.hid hN1
      go_wp2_with fail
      refine (HVd.out (some ad) c0 _ HRow.out).mono ?_
      rintro e w' ⟨rfl, rfl⟩
      go_wp2_with fail
      refine (HVL.out (some ad) c0 _ HRow.out hcL).mono ?_
      rintro e w3 ⟨rfl, hb⟩
      have PA3 := Lib.hid ((PA2.out.below hb).below ((Below.refl _ _).alloc (Nat.le_refl _) (.cells #[.int .i64 x, .int .i64 y] 25)))
      have PF3 := Lib.hid (Pr.new w3 x y 25)
      have oL3 := Lib.hid ((own_below oL2.out hb).alloc (.cells #[.int .i64 x, .int .i64 y] 25))
      have HB3 := Lib.hid ((HB2.out.trans (hb.mono HB2.out.size)).alloc (HB2.out.trans (hb.mono HB2.out.size)).size (.cells #[.int .i64 x, .int .i64 y] 25))
      clear hb PA2 oL2 HB2 HRow hc
      go_wp2_with fail
      refine (HOL.out (some ad) c0 _ (IRow.of_own oL3.out (by omega) HLr.out) hcL).mono ?_
      rintro e w4 ⟨⟨A1, c1, rfl, oO⟩, hb⟩
      have PA4 := Lib.hid (PA3.out.below hb)
      have PF4 := Lib.hid (PF3.out.below hb)
      have oL4 := Lib.hid (own_below oL3.out hb)
      have oO4 := Lib.hid oO
      have HB4 := Lib.hid (HB3.out.trans (hb.mono HB3.out.size))
      clear hb PA3 PF3 oL3 HB3 oO
      go_wp2_with fail
      refine (HVO.out A1 c1 _ (IRow.of_own oO4.out (by omega) HOr.out) (own_cap oO4.out)).mono ?_
      rintro e w5 ⟨rfl, hb⟩
      have PA5 := Lib.hid ((PA4.out.below hb).below ((Below.refl _ _).alloc (Nat.le_refl _) (.cells #[.int .i64 x, .int .i64 y] 25)))
      have PF5 := Lib.hid ((PF4.out.below hb).below ((Below.refl _ _).alloc (Nat.le_refl _) (.cells #[.int .i64 x, .int .i64 y] 25)))
      have oL5 := Lib.hid ((own_below oL4.out hb).alloc (.cells #[.int .i64 x, .int .i64 y] 25))
      have oO5 := Lib.hid ((own_below oO4.out hb).alloc (.cells #[.int .i64 x, .int .i64 y] 25))
      have PG5 := Lib.hid (Pr.new w5 x y 25)
      have HB5 := Lib.hid ((HB4.out.trans (hb.mono HB4.out.size)).alloc (HB4.out.trans (hb.mono HB4.out.size)).size (.cells #[.int .i64 x, .int .i64 y] 25))
      clear hb PA4 PF4 oL4 oO4 HB4 HVO
      go_wp2_with fail
      refine (HOO.out A1 c1 _ (IRow.of_own oO5.out (by omega) HOr.out) (own_cap oO5.out)).mono ?_
      rintro e w6 ⟨⟨A2, c2, rfl, oB⟩, hb⟩
      have PA6 := Lib.hid (PA5.out.below hb)
      have PF6 := Lib.hid (PF5.out.below hb)
      have PG6 := Lib.hid (PG5.out.below hb)
      have oL6 := Lib.hid (own_below oL5.out hb)
      have oO6 := Lib.hid (own_below oO5.out hb)
      have oK6 := Lib.hid oB
      have HB6 := Lib.hid (HB5.out.trans (hb.mono HB5.out.size))
      clear hb PA5 PF5 PG5 oL5 oO5 oB HB5 HOO
      go_wp2_with fail
      refine (HCv.out (some ad) c0 _ (IRow.of_own oL6.out (by omega) HLr.out) hcL).mono ?_
      rintro e w7 ⟨⟨A3, c3, rfl, oB⟩, hb⟩
      have PA7 := Lib.hid (PA6.out.below hb)
      have PF7 := Lib.hid (PF6.out.below hb)
      have PG7 := Lib.hid (PG6.out.below hb)
      have oL7 := Lib.hid (own_below oL6.out hb)
      have oO7 := Lib.hid (own_below oO6.out hb)
      have oK7 := Lib.hid (own_below oK6.out hb)
      have oV7 := Lib.hid oB
      have HB7 := Lib.hid (HB6.out.trans (hb.mono HB6.out.size))
      clear hb PA6 PF6 PG6 oL6 oO6 oK6 oB HB6 HCv
      go_wp2_with fail
      refine (HTx.out (some ad) c0 _ (IRow.of_own oL7.out (by omega) HLr.out) hcL (HD.out.below HB7.out)).mono ?_
      rintro e w8 ⟨rfl, hb⟩
      have PA8 := Lib.hid (PA7.out.below hb)
      have PF8 := Lib.hid (PF7.out.below hb)
      have PG8 := Lib.hid (PG7.out.below hb)
      have oL8 := Lib.hid (own_below oL7.out hb)
      have oO8 := Lib.hid (own_below oO7.out hb)
      have oK8 := Lib.hid (own_below oK7.out hb)
      have oV8 := Lib.hid (own_below oV7.out hb)
      have HB8 := Lib.hid (HB7.out.trans (hb.mono HB7.out.size))
      clear hb PA7 PF7 PG7 oL7 oO7 oK7 oV7 HB7 HTx
      go_wp2_with fail
      refine (HRt.out _ (HD.out.below HB8.out) (HE.out.below HB8.out) (HM.out.below HB8.out)).mono ?_
      rintro e w9 ⟨⟨A4, c4, rfl, oB⟩, hb⟩
      have PA9 := Lib.hid (PA8.out.below hb)
      have PF9 := Lib.hid (PF8.out.below hb)
      have PG9 := Lib.hid (PG8.out.below hb)
      have oL9 := Lib.hid (own_below oL8.out hb)
      have oO9 := Lib.hid (own_below oO8.out hb)
      have oK9 := Lib.hid (own_below oK8.out hb)
      have oV9 := Lib.hid (own_below oV8.out hb)
      have oR9 := Lib.hid oB
      have HB9 := Lib.hid (HB8.out.trans (hb.mono HB8.out.size))
      clear hb PA8 PF8 PG8 oL8 oO8 oK8 oV8 oB HB8 HRt HD HE HM
      obtain ⟨PA_a, PA_b, _, _⟩ := PA9.out
      obtain ⟨PF_a, PF_b, _, _⟩ := PF9.out
      obtain ⟨PG_a, PG_b, _, _⟩ := PG9.out
      go_wp2_with fail
      refine (a2Same_same A2 N c2 (some ad) c0 L w9 (IRow.of_own oK9.out (by omega) HLr.out) (IRow.of_own oL9.out (by omega) HLr.out)).mono ?_
      rintro e w10 ⟨rfl, hb⟩
      have PA10 := Lib.hid (PA9.out.below hb)
      have oL10 := Lib.hid (own_below oL9.out hb)
      have oO10 := Lib.hid (own_below oO9.out hb)
      have oV10 := Lib.hid (own_below oV9.out hb)
      have oR10 := Lib.hid (own_below oR9.out hb)
      have HB10 := Lib.hid (HB9.out.trans (hb.mono HB9.out.size))
      clear hb oK9 PF9 PG9 PA9 oL9 oO9 oV9 oR9 HB9 PA_a PA_b PF_a PF_b PG_a PG_b
      go_wp2_with fail
      refine (a2Same_same A4 N c4 (some ad) c0 L w10 (IRow.of_own oR10.out (by omega) HLr.out) (IRow.of_own oL10.out (by omega) HLr.out)).mono ?_
      rintro e w11 ⟨rfl, hb⟩
      have PA11 := Lib.hid (PA10.out.below hb)
      have oL11 := Lib.hid (own_below oL10.out hb)
      have oO11 := Lib.hid (own_below oO10.out hb)
      have oV11 := Lib.hid (own_below oV10.out hb)
      have HB11 := Lib.hid (HB10.out.trans (hb.mono HB10.out.size))
      clear hb oR10 PA10 oL10 oO10 oV10 HB10 
      have HVr := Lib.hid (show ∀ z ∈ all, Rng z.1 ∧ Rng z.2 from fun z hz => by
        have := vfB_iff.1 (HVa.out z hz)
        unfold Rng; omega)
      have HR := Lib.hid (PRow.of_own oV11.out (by omega) HVr.out)
      go_wp2_with fail
      go_loopw [20] (fun i wr => ∃ k : Nat, k ≤ N ∧ i = .int .i64 k ∧ Below w11.heap.size w11 wr) (fun i _ => N - (intOf i).toNat)
      case atStart => exact ⟨0, Nat.zero_le _, rfl, Below.refl _ _⟩
      case round =>
        obtain ⟨k, hk, rfl, hb⟩ := hrel
        by_cases hlt : k < N
        · by_cases hk0 : k = 0
          · have hgd : decide ((0 : Int) < (k : Int)) = false := decide_eq_false (by omega)
            go_wp2_with fail
            go_quiet (fail)
            go_wp2_with fail
            go_roundw
            case rel => exact ⟨k + 1, by omega, by go_num, hb.trans ⟨rfl, rfl, rfl, Nat.le_refl _, fun _ _ => rfl⟩⟩
            case measure => simp [intOf]; omega
          · have hgd : decide ((0 : Int) < (k : Int)) = true := decide_eq_true (by omega)
            have hgn : 0 < k := by omega
            have hgi : (0 : Int) < (k : Int) := by omega
            obtain ⟨j, hj⟩ : ∃ j, j + 1 = k := ⟨k - 1, by omega⟩
            obtain ⟨bb, o, x1, y1, hA, hz1, _, _, _, _, hc1, hc2⟩ := (HR.out.below hb).at_ (k := j) (by omega)
            obtain ⟨bb', o', x2, y2, hA', hz2, _, _, _, _, hc1', hc2'⟩ := (HR.out.below hb).at_ hlt
            obtain ⟨rfl, rfl⟩ : bb' = bb ∧ o' = o := by rw [hA] at hA'; injection hA' with h; injection h with h1 h2; exact ⟨h1.symm, h2.symm⟩
            subst hA
            have hnb := HNb.out j _ _ hz1 (by rw [show j + 1 = k by omega]; exact hz2)
            have HN1 := Lib.hid (fun W => specAreNeighbours_any x1 y1 x2 y2 W)
            rw [show nbB x1 y1 x2 y2 = true from hnb] at HN1
            clear hnb hz1 hz2 hA'
            have iw : IntKind.i64.wrap ((k : Int) - 1) = (j : Int) := by rw [IntWalk.i64_in _ (by omega)]; omega
            have i0 : (0 : Int) ≤ (j : Int) := by omega
            have i1 : (j : Int) < (N : Int) := by omega
            replace hj := Lib.hid hj
            have i2 : (0 : Int) ≤ (k : Int) := by omega
            have i3 : (k : Int) < (N : Int) := by omega
            go_wp2_with fail
            go_still_tail 12, (by kernel_rfl)
            change wpList _ _ _ _ _ wr.drew
            go_wp2_with fail
            refine (HN1.out _).mono ?_
            rintro e w12 ⟨rfl, hbb⟩
            have hb2 := hb.drew.trans (hbb.mono hb.size)
            go_wp2_with fail
            go_roundw
            case rel => exact ⟨k + 1, by omega, by go_num, hb2⟩
            case measure => simp [intOf]; omega
        · obtain rfl : k = N := by omega
          obtain ⟨bb, o, x1, y1, hA, hz1, _, _, _, _, hc1, hc2⟩ := (HR.out.below hb).at_ (k := k - 1) (by omega)
          subst hA
          have he : (x1, y1) = (x, y) := by
            have h := HLa.out
            rw [show m = k - 1 by have := HN.out; omega, hz1] at h
            injection h
          injection he with he1 he2
          subst he1 he2
          obtain ⟨PA_a, PA_b, _, _⟩ := PA11.out.below hb
          have HB12 := Lib.hid (HB11.out.trans (hb.mono HB11.out.size))
          have hm1 : IntKind.i64.wrap ((k : Int) - 1) = (m : Int) := by rw [IntWalk.i64_in _ (by omega)]; have := HN.out; omega
          have j0 : (0 : Int) ≤ (m : Int) := by omega
          have j1 : (m : Int) < (k : Int) := by have := HN.out; omega
          rw [show k - 1 = m by have := HN.out; omega] at hc1 hc2
          have rL := Lib.hid ((IRow.of_own oL11.out (by omega) HLr.out).below hb)
          have rO := Lib.hid ((IRow.of_own oO11.out (by omega) HOr.out).below hb)
          clear hz1
          go_wp2_with fail
          go_quiet ((go_at_call 16; exact Calls.quiet_of (HCm.out (some ad) c0 A1 c1 _ rL.out rO.out)))
          go_wp2_with fail
          go_ret
          exact ⟨rfl, HB12.out.trans (below_drewN _ _ _)⟩
    · have hgt : (1 : Int) < (N : Int) := by omega
      have hzb : (z == 1) = false := beq_eq_false_iff_ne.2 hz1
      go_wp2_with fail
      refine (HVd.out (some ad) c0 _ HRow.out).mono ?_
      rintro e w' ⟨rfl, rfl⟩
      go_wp2_with fail
      refine (HVL.out (some ad) c0 _ HRow.out hcL).mono ?_
      rintro e w3 ⟨rfl, hb⟩
      have PA3 := Lib.hid ((PA2.out.below hb).below ((Below.refl _ _).alloc (Nat.le_refl _) (.cells #[.int .i64 x, .int .i64 y] 25)))
      have PF3 := Lib.hid (Pr.new w3 x y 25)
      have oL3 := Lib.hid ((own_below oL2.out hb).alloc (.cells #[.int .i64 x, .int .i64 y] 25))
      have HB3 := Lib.hid ((HB2.out.trans (hb.mono HB2.out.size)).alloc (HB2.out.trans (hb.mono HB2.out.size)).size (.cells #[.int .i64 x, .int .i64 y] 25))
      clear hb PA2 oL2 HB2 HRow hc
      go_wp2_with fail
      refine (HOL.out (some ad) c0 _ (IRow.of_own oL3.out (by omega) HLr.out) hcL).mono ?_
      rintro e w4 ⟨⟨A1, c1, rfl, oO⟩, hb⟩
      have PA4 := Lib.hid (PA3.out.below hb)
      have PF4 := Lib.hid (PF3.out.below hb)
      have oL4 := Lib.hid (own_below oL3.out hb)
      have oO4 := Lib.hid oO
      have HB4 := Lib.hid (HB3.out.trans (hb.mono HB3.out.size))
      clear hb PA3 PF3 oL3 HB3 oO
      go_wp2_with fail
      refine (HVO.out A1 c1 _ (IRow.of_own oO4.out (by omega) HOr.out) (own_cap oO4.out)).mono ?_
      rintro e w5 ⟨rfl, hb⟩
      have PA5 := Lib.hid ((PA4.out.below hb).below ((Below.refl _ _).alloc (Nat.le_refl _) (.cells #[.int .i64 x, .int .i64 y] 25)))
      have PF5 := Lib.hid ((PF4.out.below hb).below ((Below.refl _ _).alloc (Nat.le_refl _) (.cells #[.int .i64 x, .int .i64 y] 25)))
      have oL5 := Lib.hid ((own_below oL4.out hb).alloc (.cells #[.int .i64 x, .int .i64 y] 25))
      have oO5 := Lib.hid ((own_below oO4.out hb).alloc (.cells #[.int .i64 x, .int .i64 y] 25))
      have PG5 := Lib.hid (Pr.new w5 x y 25)
      have HB5 := Lib.hid ((HB4.out.trans (hb.mono HB4.out.size)).alloc (HB4.out.trans (hb.mono HB4.out.size)).size (.cells #[.int .i64 x, .int .i64 y] 25))
      clear hb PA4 PF4 oL4 oO4 HB4 HVO
      go_wp2_with fail
      refine (HOO.out A1 c1 _ (IRow.of_own oO5.out (by omega) HOr.out) (own_cap oO5.out)).mono ?_
      rintro e w6 ⟨⟨A2, c2, rfl, oB⟩, hb⟩
      have PA6 := Lib.hid (PA5.out.below hb)
      have PF6 := Lib.hid (PF5.out.below hb)
      have PG6 := Lib.hid (PG5.out.below hb)
      have oL6 := Lib.hid (own_below oL5.out hb)
      have oO6 := Lib.hid (own_below oO5.out hb)
      have oK6 := Lib.hid oB
      have HB6 := Lib.hid (HB5.out.trans (hb.mono HB5.out.size))
      clear hb PA5 PF5 PG5 oL5 oO5 oB HB5 HOO
      go_wp2_with fail
      refine (HCv.out (some ad) c0 _ (IRow.of_own oL6.out (by omega) HLr.out) hcL).mono ?_
      rintro e w7 ⟨⟨A3, c3, rfl, oB⟩, hb⟩
      have PA7 := Lib.hid (PA6.out.below hb)
      have PF7 := Lib.hid (PF6.out.below hb)
      have PG7 := Lib.hid (PG6.out.below hb)
      have oL7 := Lib.hid (own_below oL6.out hb)
      have oO7 := Lib.hid (own_below oO6.out hb)
      have oK7 := Lib.hid (own_below oK6.out hb)
      have oV7 := Lib.hid oB
      have HB7 := Lib.hid (HB6.out.trans (hb.mono HB6.out.size))
      clear hb PA6 PF6 PG6 oL6 oO6 oK6 oB HB6 HCv
      go_wp2_with fail
      refine (HTx.out (some ad) c0 _ (IRow.of_own oL7.out (by omega) HLr.out) hcL (HD.out.below HB7.out)).mono ?_
      rintro e w8 ⟨rfl, hb⟩
      have PA8 := Lib.hid (PA7.out.below hb)
      have PF8 := Lib.hid (PF7.out.below hb)
      have PG8 := Lib.hid (PG7.out.below hb)
      have oL8 := Lib.hid (own_below oL7.out hb)
      have oO8 := Lib.hid (own_below oO7.out hb)
      have oK8 := Lib.hid (own_below oK7.out hb)
      have oV8 := Lib.hid (own_below oV7.out hb)
      have HB8 := Lib.hid (HB7.out.trans (hb.mono HB7.out.size))
      clear hb PA7 PF7 PG7 oL7 oO7 oK7 oV7 HB7 HTx
      go_wp2_with fail
      refine (HRt.out _ (HD.out.below HB8.out) (HE.out.below HB8.out) (HM.out.below HB8.out)).mono ?_
      rintro e w9 ⟨⟨A4, c4, rfl, oB⟩, hb⟩
      have PA9 := Lib.hid (PA8.out.below hb)
      have PF9 := Lib.hid (PF8.out.below hb)
      have PG9 := Lib.hid (PG8.out.below hb)
      have oL9 := Lib.hid (own_below oL8.out hb)
      have oO9 := Lib.hid (own_below oO8.out hb)
      have oK9 := Lib.hid (own_below oK8.out hb)
      have oV9 := Lib.hid (own_below oV8.out hb)
      have oR9 := Lib.hid oB
      have HB9 := Lib.hid (HB8.out.trans (hb.mono HB8.out.size))
      clear hb PA8 PF8 PG8 oL8 oO8 oK8 oV8 oB HB8 HRt HD HE HM
      obtain ⟨PA_a, PA_b, _, _⟩ := PA9.out
      obtain ⟨PF_a, PF_b, _, _⟩ := PF9.out
      obtain ⟨PG_a, PG_b, _, _⟩ := PG9.out
      go_wp2_with fail
      refine (a2Same_same A2 N c2 (some ad) c0 L w9 (IRow.of_own oK9.out (by omega) HLr.out) (IRow.of_own oL9.out (by omega) HLr.out)).mono ?_
      rintro e w10 ⟨rfl, hb⟩
      have PA10 := Lib.hid (PA9.out.below hb)
      have oL10 := Lib.hid (own_below oL9.out hb)
      have oO10 := Lib.hid (own_below oO9.out hb)
      have oV10 := Lib.hid (own_below oV9.out hb)
      have oR10 := Lib.hid (own_below oR9.out hb)
      have HB10 := Lib.hid (HB9.out.trans (hb.mono HB9.out.size))
      clear hb oK9 PF9 PG9 PA9 oL9 oO9 oV9 oR9 HB9 PA_a PA_b PF_a PF_b PG_a PG_b
      go_wp2_with fail
      refine (a2Same_same A4 N c4 (some ad) c0 L w10 (IRow.of_own oR10.out (by omega) HLr.out) (IRow.of_own oL10.out (by omega) HLr.out)).mono ?_
      rintro e w11 ⟨rfl, hb⟩
      have PA11 := Lib.hid (PA10.out.below hb)
      have oL11 := Lib.hid (own_below oL10.out hb)
      have oO11 := Lib.hid (own_below oO10.out hb)
      have oV11 := Lib.hid (own_below oV10.out hb)
      have HB11 := Lib.hid (HB10.out.trans (hb.mono HB10.out.size))
      clear hb oR10 PA10 oL10 oO10 oV10 HB10 
      have HVr := Lib.hid (show ∀ z ∈ all, Rng z.1 ∧ Rng z.2 from fun z hz => by
        have := vfB_iff.1 (HVa.out z hz)
        unfold Rng; omega)
      have HR := Lib.hid (PRow.of_own oV11.out (by omega) HVr.out)
      go_wp2_with fail
      go_loopw [20] (fun i wr => ∃ k : Nat, k ≤ N ∧ i = .int .i64 k ∧ Below w11.heap.size w11 wr) (fun i _ => N - (intOf i).toNat)
      case atStart => exact ⟨0, Nat.zero_le _, rfl, Below.refl _ _⟩
      case round =>
        obtain ⟨k, hk, rfl, hb⟩ := hrel
        by_cases hlt : k < N
        · by_cases hk0 : k = 0
          · have hgd : decide ((0 : Int) < (k : Int)) = false := decide_eq_false (by omega)
            go_wp2_with fail
            go_quiet (fail)
            go_wp2_with fail
            go_roundw
            case rel => exact ⟨k + 1, by omega, by go_num, hb.trans ⟨rfl, rfl, rfl, Nat.le_refl _, fun _ _ => rfl⟩⟩
            case measure => simp [intOf]; omega
          · have hgd : decide ((0 : Int) < (k : Int)) = true := decide_eq_true (by omega)
            have hgn : 0 < k := by omega
            have hgi : (0 : Int) < (k : Int) := by omega
            obtain ⟨j, hj⟩ : ∃ j, j + 1 = k := ⟨k - 1, by omega⟩
            obtain ⟨bb, o, x1, y1, hA, hz1, _, _, _, _, hc1, hc2⟩ := (HR.out.below hb).at_ (k := j) (by omega)
            obtain ⟨bb', o', x2, y2, hA', hz2, _, _, _, _, hc1', hc2'⟩ := (HR.out.below hb).at_ hlt
            obtain ⟨rfl, rfl⟩ : bb' = bb ∧ o' = o := by rw [hA] at hA'; injection hA' with h; injection h with h1 h2; exact ⟨h1.symm, h2.symm⟩
            subst hA
            have hnb := HNb.out j _ _ hz1 (by rw [show j + 1 = k by omega]; exact hz2)
            have HN1 := Lib.hid (fun W => specAreNeighbours_any x1 y1 x2 y2 W)
            rw [show nbB x1 y1 x2 y2 = true from hnb] at HN1
            clear hnb hz1 hz2 hA'
            have iw : IntKind.i64.wrap ((k : Int) - 1) = (j : Int) := by rw [IntWalk.i64_in _ (by omega)]; omega
            have i0 : (0 : Int) ≤ (j : Int) := by omega
            have i1 : (j : Int) < (N : Int) := by omega
            replace hj := Lib.hid hj
            have i2 : (0 : Int) ≤ (k : Int) := by omega
            have i3 : (k : Int) < (N : Int) := by omega
            go_wp2_with fail
            go_still_tail 12, (by kernel_rfl)
            change wpList _ _ _ _ _ wr.drew
            go_wp2_with fail
            refine (HN1.out _).mono ?_
            rintro e w12 ⟨rfl, hbb⟩
            have hb2 := hb.drew.trans (hbb.mono hb.size)
            go_wp2_with fail
            go_roundw
            case rel => exact ⟨k + 1, by omega, by go_num, hb2⟩
            case measure => simp [intOf]; omega
        · obtain rfl : k = N := by omega
          obtain ⟨bb, o, x1, y1, hA, hz1, _, _, _, _, hc1, hc2⟩ := (HR.out.below hb).at_ (k := k - 1) (by omega)
          subst hA
          have he : (x1, y1) = (x, y) := by
            have h := HLa.out
            rw [show m = k - 1 by have := HN.out; omega, hz1] at h
            injection h
          injection he with he1 he2
          subst he1 he2
          obtain ⟨PA_a, PA_b, _, _⟩ := PA11.out.below hb
          have HB12 := Lib.hid (HB11.out.trans (hb.mono HB11.out.size))
          have hm1 : IntKind.i64.wrap ((k : Int) - 1) = (m : Int) := by rw [IntWalk.i64_in _ (by omega)]; have := HN.out; omega
          have j0 : (0 : Int) ≤ (m : Int) := by omega
          have j1 : (m : Int) < (k : Int) := by have := HN.out; omega
          rw [show k - 1 = m by have := HN.out; omega] at hc1 hc2
          have rL := Lib.hid ((IRow.of_own oL11.out (by omega) HLr.out).below hb)
          have rO := Lib.hid ((IRow.of_own oO11.out (by omega) HOr.out).below hb)
          clear hz1
          go_wp2_with fail
          go_quiet ((go_at_call 16; exact Calls.quiet_of (HCm.out (some ad) c0 A1 c1 _ rL.out rO.out)))
          go_wp2_with fail
          go_ret
          exact ⟨rfl, HB12.out.trans (below_drewN _ _ _)⟩
  · rw [hn] at HL
    clear hn
    go_enter Tryz.func3, Tryz.ntmps3
    go_wp2_with fail
    refine HL.out.mono ?_
    rintro e w' ⟨rfl, rfl⟩
    go_wp2_with fail
    go_ret
    exact ⟨rfl, Below.refl _ _⟩
end Go.Proofs.YtlpglibnjmjjkaaGreatDoor
