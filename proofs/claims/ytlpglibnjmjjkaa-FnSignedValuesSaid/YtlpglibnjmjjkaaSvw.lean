/-
  The walk of the law FnSignedValues.
  No condition but those of the law's own text.
-/
import Derived.Test.YtlpglibnjmjjkaaProg
import Derived.Test.YtlpglibnjmjjkaaMem
import Derived.Test.YtlpglibnjmjjkaaBasic
import Derived.Test.YtlpglibnjmjjkaaAllk
import Derived.Test.YtlpglibnjmjjkaaFrac
import Derived.Test.YtlpglibnjmjjkaaFrac3
import Derived.Test.YtlpglibnjmjjkaaMarks
import Derived.Test.YtlpglibnjmjjkaaInts
import Derived.Test.YtlpglibnjmjjkaaSig
import Derived.Test.YtlpglibnjmjjkaaSgn
import Derived.Test.YtlpglibnjmjjkaaOwn
import Derived.Test.YtlpglibnjmjjkaaExp
import Derived.Test.YtlpglibnjmjjkaaKnd
import Derived.Test.YtlpglibnjmjjkaaSrc
import Derived.Test.YtlpglibnjmjjkaaDrw
import Derived.Test.YtlpglibnjmjjkaaDrT
import Derived.Test.YtlpglibnjmjjkaaSgd
import Derived.Test.YtlpglibnjmjjkaaSge
import Derived.Test.YtlpglibnjmjjkaaSgf
import Derived.Test.YtlpglibnjmjjkaaSgh
import Derived.Test.YtlpglibnjmjjkaaCvgL
import Derived.Test.YtlpglibnjmjjkaaVal
import Derived.Test.YtlpglibnjmjjkaaSct
import Derived.Test.YtlpglibnjmjjkaaSvl
import Derived.Test.YtlpglibnjmjjkaaSln
import Derived.Test.YtlpglibnjmjjkaaSvvM
import Derived.Test.YtlpglibnjmjjkaaLng
import Derived.Test.YtlpglibnjmjjkaaByt
import Derived.StillTailTactics
import Derived.Handy
import Derived.BigQuiet
import Derived.RegionTactic
import Derived.BigRegion
import Derived.Deep.QuietTactic
import Derived.Deep.RegionHeld3
import Derived.Deep.DrawnRows
import Derived.Deep.AppendLies
namespace Go.Proofs.Ytlpglibnjmjjkaa
open Go.RowKit
set_option linter.unusedVariables false
set_option linter.unusedSimpArgs false
attribute [local go_sem ↓] Go.wp_at_zero Go.wp_at_succ

theorem vls_code (zs : List (Int × Int)) : (vlsT zs).2.2 = scfC zs := by
  unfold vlsT
  split
  · rename_i h; exact h.symm
  · rfl
theorem sln_cases (p q : Int) : (slnC p q = 0 ∧ slnL p q = lenP p q 4) ∨ slnC p q = 1 := by
  unfold slnC slnL
  split
  · exact .inl ⟨rfl, rfl⟩
  · exact .inr rfl
theorem lenP_at (p q : Int) {j k : Nat} (h : j < k) : (lenP p q k)[j]? = some (lenK p q ((j : Int) + 1)) := by
  unfold lenP
  rw [List.getElem?_map, List.getElem?_range h]; rfl
/-- All that the law of signed values wants of the values. -/
theorem vals (zs : List (Int × Int)) : scfC zs = 0 → 1 ≤ (scfL zs).length ∧ (scfL zs)[(scfL zs).length - 1]? = some ((vlsT zs).1, (vlsT zs).2.1) ∧ valT (tfsL zs) = ((vlsT zs).1, (vlsT zs).2.1, 0) := fun h => by
  obtain ⟨h1, h2, h3, h4⟩ := scf_ok h
  refine ⟨by omega, ?_, tfs_val h⟩
  rw [lastP_at rfl (by omega)]
  unfold vlsT
  rw [if_pos h]
set_option maxRecDepth 100000 in
set_option maxHeartbeats 6400000 in
theorem fnSignedValues_walk (w : World) (A : Option Addr) (n cap : Nat) (xs : List Int) (hx : BRow w A n xs) :
    Calls Try.prog 3 #[.slice A n cap] w fun e w' => e = .returned (.bool true) ∧ Below w.heap.size w w' := by
  have hbd := hx.2.1
  have HX := Lib.hid hx
  have HL := Lib.hid (f6big_any A n cap w hbd)
  clear hx
  cases hn : decide ((4096 : Int) < n)
  · rw [hn] at HL
    clear hn
    go_enter Try.func3, Try.ntmps3
    go_wp2_with fail
    refine HL.out.mono ?_
    rintro e w' ⟨rfl, rfl⟩
    clear HL
    go_wp2_with fail
    refine (drawCvg_any A n cap xs w HX.out).mono ?_
    rintro e w1 ⟨⟨zs, B0, m0, c0, rfl, hrow, hc0, hm0⟩, hb⟩
    have rZ1 := Lib.hid (hrow)
    have HB1 := Lib.hid (hb)
    clear hb  hrow
    have HV := fun W h => implVls_any B0 m0 c0 zs W h hc0
    rw [vls_code zs] at HV
    have HS1 := fun W h => implScf_any B0 m0 c0 zs W h hc0
    have HS2 := fun W h => specScf_any B0 m0 c0 zs W h hc0
    have HT1 := fun W h => implTfs_any B0 m0 c0 zs W h hc0
    have HT2 := fun W h => specTfs_any B0 m0 c0 zs W h hc0
    unfold ResF at HS1 HS2
    unfold ResI at HT1 HT2
    rw [show tfsC zs = scfC zs from rfl] at HT1 HT2
    have hsl := scfL_len zs
    have hzl := rZ1.out.len
    have hsr := scfL_rng zs
    have htl := tfsL_len zs
    have htr := tfsL_rng zs
    have hfin := vals zs
    generalize scfL zs = S at *
    generalize scfC zs = cS at *
    generalize tfsL zs = Tf at *
    generalize (vlsT zs).1 = v1 at *
    generalize (vlsT zs).2.1 = v2 at *
    obtain ⟨N, hN⟩ : ∃ N, S.length = N := ⟨_, rfl⟩
    obtain ⟨M, hM⟩ : ∃ M, Tf.length = M := ⟨_, rfl⟩
    rw [hN] at HS1 HS2 hsl hfin
    rw [hM] at HT1 HT2 htl
    have hN61 : N ≤ 61 := by omega
    have HFin := Lib.hid hfin
    have HSr := Lib.hid hsr
    have HTr := Lib.hid htr
    replace HV := Lib.hid HV
    replace HS1 := Lib.hid HS1
    replace HS2 := Lib.hid HS2
    replace HT1 := Lib.hid HT1
    replace HT2 := Lib.hid HT2
    clear hsl hzl hsr htr hfin hN hM
    go_wp2_with fail
    refine (HS1.out _ rZ1.out).mono ?_
    rintro e w2 ⟨⟨A2, c2, rfl, ho⟩, hb⟩
    have rZ2 := Lib.hid (rZ1.out.below hb)
    have rS2 := Lib.hid (PRow.of_own ho (by omega) HSr.out)
    have HB2 := Lib.hid (HB1.out.trans (hb.mono HB1.out.size))
    clear hb rZ1 HB1 ho HS1
    go_wp2_with fail
    refine (HS2.out _ rZ2.out).mono ?_
    rintro e w3 ⟨⟨A3, c3, rfl, ho⟩, hb⟩
    have rZ3 := Lib.hid (rZ2.out.below hb)
    have rS3 := Lib.hid (rS2.out.below hb)
    have rM3 := Lib.hid (PRow.of_own ho (by omega) HSr.out)
    have HB3 := Lib.hid (HB2.out.trans (hb.mono HB2.out.size))
    clear hb rZ2 rS2 HB2 ho HS2
    go_wp2_with fail
    refine (HV.out _ rZ3.out).mono ?_
    rintro e w4 ⟨rfl, hb⟩
    have rZ4 := Lib.hid ((rZ3.out.below hb).alloc (.cells #[.int .i64 v1, .int .i64 v2] 30))
    have rS4 := Lib.hid ((rS3.out.below hb).alloc (.cells #[.int .i64 v1, .int .i64 v2] 30))
    have rM4 := Lib.hid ((rM3.out.below hb).alloc (.cells #[.int .i64 v1, .int .i64 v2] 30))
    have PV4 := Lib.hid (Pr.new w4 v1 v2 30)
    have HB4 := Lib.hid (Below.al (HB3.out.trans (hb.mono HB3.out.size)) (Nat.le_refl _) (.cells #[.int .i64 v1, .int .i64 v2] 30))
    clear hb rZ3 rS3 rM3 HB3 HV
    go_wp2_with fail
    refine (HT1.out _ rZ4.out).mono ?_
    rintro e w5 ⟨⟨A5, c5, rfl, ho⟩, hb⟩
    have hc5 := own_cap ho
    have PV5 := Lib.hid (PV4.out.below hb)
    have rZ5 := Lib.hid (rZ4.out.below hb)
    have rS5 := Lib.hid (rS4.out.below hb)
    have rM5 := Lib.hid (rM4.out.below hb)
    have rT5 := Lib.hid (IRow.of_own ho (by omega) HTr.out)
    have HB5 := Lib.hid (HB4.out.trans (hb.mono HB4.out.size))
    clear hb PV4 rZ4 rS4 rM4 HB4 ho HT1
    go_wp2_with fail
    refine (HT2.out _ rZ5.out).mono ?_
    rintro e w6 ⟨⟨A6, c6, rfl, ho⟩, hb⟩
    have PV6 := Lib.hid (PV5.out.below hb)
    have rS6 := Lib.hid (rS5.out.below hb)
    have rM6 := Lib.hid (rM5.out.below hb)
    have rT6 := Lib.hid (rT5.out.below hb)
    have rG6 := Lib.hid (IRow.of_own ho (by omega) HTr.out)
    have HB6 := Lib.hid (HB5.out.trans (hb.mono HB5.out.size))
    clear hb rZ5 PV5 rS5 rM5 rT5 HB5 ho HT2
    go_wp2_with fail
    refine (drawLen_any A n cap xs _ (HX.out.below HB6.out)).mono ?_
    rintro e w7 ⟨⟨p, q, rfl, hp, hq⟩, hb⟩
    have PV7 := Lib.hid ((PV6.out.below hb).alloc (.cells #[.int .i64 p, .int .i64 q] 30))
    have rS7 := Lib.hid ((rS6.out.below hb).alloc (.cells #[.int .i64 p, .int .i64 q] 30))
    have rM7 := Lib.hid ((rM6.out.below hb).alloc (.cells #[.int .i64 p, .int .i64 q] 30))
    have rT7 := Lib.hid ((rT6.out.below hb).alloc (.cells #[.int .i64 p, .int .i64 q] 30))
    have rG7 := Lib.hid ((rG6.out.below hb).alloc (.cells #[.int .i64 p, .int .i64 q] 30))
    have PF7 := Lib.hid (Pr.new w7 p q 30)
    have HB7 := Lib.hid (Below.al (HB6.out.trans (hb.mono HB6.out.size)) (Nat.le_refl _) (.cells #[.int .i64 p, .int .i64 q] 30))
    clear hb PV6 rS6 rM6 rT6 rG6 HB6 
    have HL1 := fun W => implSln_any p q W
    have HL2 := fun W => specSln_any p q W
    unfold ResI at HL1 HL2
    have hrl := slnL_rng p q
    have hll := slnL_len p q
    have hcs := sln_cases p q
    have HE := Lib.hid (fun (k : Int) W => implExs_any p q k W)
    generalize slnL p q = R at *
    generalize slnC p q = cL at *
    obtain ⟨NL, hNL⟩ : ∃ NL, R.length = NL := ⟨_, rfl⟩
    rw [hNL] at HL1 HL2 hll
    have HNL := Lib.hid hNL
    have HRr := Lib.hid hrl
    have HCs := Lib.hid hcs
    replace HL1 := Lib.hid HL1
    replace HL2 := Lib.hid HL2
    clear hrl hcs hNL
    obtain ⟨PF_a, PF_b, _, _⟩ := PF7.out
    go_wp2_with fail
    refine (HL1.out _).mono ?_
    rintro e w8 ⟨⟨A8, c8, rfl, ho⟩, hb⟩
    have PV8 := Lib.hid (PV7.out.below hb)
    have PF8 := Lib.hid (PF7.out.below hb)
    have rS8 := Lib.hid (rS7.out.below hb)
    have rM8 := Lib.hid (rM7.out.below hb)
    have rT8 := Lib.hid (rT7.out.below hb)
    have rG8 := Lib.hid (rG7.out.below hb)
    have rL8 := Lib.hid (IRow.of_own ho (by omega) HRr.out)
    have HB8 := Lib.hid (HB7.out.trans (hb.mono HB7.out.size))
    clear hb PV7 PF7 rS7 rM7 rT7 rG7 HB7 ho HL1 PF_a PF_b
    obtain ⟨PF_a, PF_b, _, _⟩ := PF8.out
    go_wp2_with fail
    refine (HL2.out _).mono ?_
    rintro e w9 ⟨⟨A9, c9, rfl, ho⟩, hb⟩
    have PV9 := Lib.hid (PV8.out.below hb)
    have PF9 := Lib.hid (PF8.out.below hb)
    have rS9 := Lib.hid (rS8.out.below hb)
    have rM9 := Lib.hid (rM8.out.below hb)
    have rT9 := Lib.hid (rT8.out.below hb)
    have rG9 := Lib.hid (rG8.out.below hb)
    have rL9 := Lib.hid (rL8.out.below hb)
    have rR9 := Lib.hid (IRow.of_own ho (by omega) HRr.out)
    have HB9 := Lib.hid (HB8.out.trans (hb.mono HB8.out.size))
    clear hb PV8 PF8 rS8 rM8 rT8 rG8 rL8 HB8 ho HL2 PF_a PF_b
    go_wp2_with fail
    refine (drawSft_any A n cap xs _ (HX.out.below HB9.out)).mono ?_
    rintro e w10 ⟨⟨ts, BT, mT, cT, kd, rfl, hrow, hcT, hmT⟩, hb⟩
    have PV10 := Lib.hid (PV9.out.below hb)
    have PF10 := Lib.hid (PF9.out.below hb)
    have rS10 := Lib.hid (rS9.out.below hb)
    have rM10 := Lib.hid (rM9.out.below hb)
    have rT10 := Lib.hid (rT9.out.below hb)
    have rG10 := Lib.hid (rG9.out.below hb)
    have rL10 := Lib.hid (rL9.out.below hb)
    have rR10 := Lib.hid (rR9.out.below hb)
    have rX10 := Lib.hid (hrow)
    have HB10 := Lib.hid (HB9.out.trans (hb.mono HB9.out.size))
    clear hb PV9 PF9 rS9 rM9 rT9 rG9 rL9 rR9 HB9 hrow
    have HF1 := fun W h => implSft_any BT mT cT ts kd W h hcT
    have HF2 := fun W h => specSft_any BT mT cT ts kd W h hcT
    unfold ResS at HF1 HF2
    have hfl := sftL_len ts kd
    have hfr := sftL_rng ts kd
    generalize sftL ts kd = Sf at *
    generalize sftC ts kd = cF at *
    obtain ⟨NF, hNF⟩ : ∃ NF, Sf.length = NF := ⟨_, rfl⟩
    rw [hNF] at HF1 HF2 hfl
    have HFr := Lib.hid hfr
    replace HF1 := Lib.hid HF1
    replace HF2 := Lib.hid HF2
    clear hfr hNF
    go_wp2_with fail
    refine (HF1.out _ rX10.out).mono ?_
    rintro e w11 ⟨⟨A11, c11, rfl, ho⟩, hb⟩
    have PV11 := Lib.hid (PV10.out.below hb)
    have PF11 := Lib.hid (PF10.out.below hb)
    have rS11 := Lib.hid (rS10.out.below hb)
    have rM11 := Lib.hid (rM10.out.below hb)
    have rT11 := Lib.hid (rT10.out.below hb)
    have rG11 := Lib.hid (rG10.out.below hb)
    have rL11 := Lib.hid (rL10.out.below hb)
    have rR11 := Lib.hid (rR10.out.below hb)
    have rX11 := Lib.hid (rX10.out.below hb)
    have rI11 := Lib.hid (PRow.of_own ho (by omega) HFr.out)
    have HB11 := Lib.hid (HB10.out.trans (hb.mono HB10.out.size))
    clear hb PV10 PF10 rS10 rM10 rT10 rG10 rL10 rR10 rX10 HB10 ho HF1
    go_wp2_with fail
    refine (HF2.out _ rX11.out).mono ?_
    rintro e w12 ⟨⟨A12, c12, rfl, ho⟩, hb⟩
    have PV12 := Lib.hid (PV11.out.below hb)
    have PF12 := Lib.hid (PF11.out.below hb)
    have rS12 := Lib.hid (rS11.out.below hb)
    have rM12 := Lib.hid (rM11.out.below hb)
    have rT12 := Lib.hid (rT11.out.below hb)
    have rG12 := Lib.hid (rG11.out.below hb)
    have rL12 := Lib.hid (rL11.out.below hb)
    have rR12 := Lib.hid (rR11.out.below hb)
    have rI12 := Lib.hid (rI11.out.below hb)
    have rJ12 := Lib.hid (PRow.of_own ho (by omega) HFr.out)
    have HB12 := Lib.hid (HB11.out.trans (hb.mono HB11.out.size))
    clear hb rX11 PV11 PF11 rS11 rM11 rT11 rG11 rL11 rR11 rI11 HB11 ho HF2
    go_wp2_with fail
    refine (f6fractions_same A2 N c2 A3 c3 S _ rS12.out rM12.out).mono ?_
    rintro e w13 ⟨rfl, hb⟩
    have PV13 := Lib.hid (PV12.out.below hb)
    have PF13 := Lib.hid (PF12.out.below hb)
    have rM13 := Lib.hid (rM12.out.below hb)
    have rT13 := Lib.hid (rT12.out.below hb)
    have rG13 := Lib.hid (rG12.out.below hb)
    have rL13 := Lib.hid (rL12.out.below hb)
    have rR13 := Lib.hid (rR12.out.below hb)
    have rI13 := Lib.hid (rI12.out.below hb)
    have rJ13 := Lib.hid (rJ12.out.below hb)
    have HB13 := Lib.hid (HB12.out.trans (hb.mono HB12.out.size))
    clear hb rS12 PV12 PF12 rM12 rT12 rG12 rL12 rR12 rI12 rJ12 HB12 
    go_wp2_with fail
    refine (f6ints_same A5 M c5 A6 c6 Tf _ rT13.out rG13.out).mono ?_
    rintro e w14 ⟨rfl, hb⟩
    have PV14 := Lib.hid (PV13.out.below hb)
    have PF14 := Lib.hid (PF13.out.below hb)
    have rM14 := Lib.hid (rM13.out.below hb)
    have rT14 := Lib.hid (rT13.out.below hb)
    have rL14 := Lib.hid (rL13.out.below hb)
    have rR14 := Lib.hid (rR13.out.below hb)
    have rI14 := Lib.hid (rI13.out.below hb)
    have rJ14 := Lib.hid (rJ13.out.below hb)
    have HB14 := Lib.hid (HB13.out.trans (hb.mono HB13.out.size))
    clear hb rG13 PV13 PF13 rM13 rT13 rL13 rR13 rI13 rJ13 HB13 
    go_wp2_with fail
    refine (f6ints_same A8 NL c8 A9 c9 R _ rL14.out rR14.out).mono ?_
    rintro e w15 ⟨rfl, hb⟩
    have PV15 := Lib.hid (PV14.out.below hb)
    have PF15 := Lib.hid (PF14.out.below hb)
    have rM15 := Lib.hid (rM14.out.below hb)
    have rT15 := Lib.hid (rT14.out.below hb)
    have rR15 := Lib.hid (rR14.out.below hb)
    have rI15 := Lib.hid (rI14.out.below hb)
    have rJ15 := Lib.hid (rJ14.out.below hb)
    have HB15 := Lib.hid (HB14.out.trans (hb.mono HB14.out.size))
    clear hb rL14 PV14 PF14 rM14 rT14 rR14 rI14 rJ14 HB14 
    go_wp2_with fail
    refine (specSame_b A11 NF c11 A12 NF c12 Sf Sf _ rI15.out rJ15.out).mono ?_
    rintro e w16 ⟨rfl, hb⟩
    have PV16 := Lib.hid (PV15.out.below hb)
    have PF16 := Lib.hid (PF15.out.below hb)
    have rM16 := Lib.hid (rM15.out.below hb)
    have rT16 := Lib.hid (rT15.out.below hb)
    have rR16 := Lib.hid (rR15.out.below hb)
    have HB16 := Lib.hid (HB15.out.trans (hb.mono HB15.out.size))
    clear hb rI15 rJ15 PV15 PF15 rM15 rT15 rR15 HB15 
    rw [show sameB Sf Sf = true from decide_eq_true rfl]
    rcases HCs.out with ⟨h0, hR⟩ | h1
    · subst h0 hR
      have hnl := HNL.out
      rw [lenP_len] at hnl
      subst hnl
      have RR := Lib.hid rR16.out
      go_wp2_with fail
      go_loopw [25] (fun i wr => ∃ k : Nat, 1 ≤ k ∧ k ≤ 5 ∧ i = .int .i64 k ∧ Below w16.heap.size w16 wr) (fun i _ => 5 - (intOf i).toNat)
      case atStart => exact ⟨1, by omega, by omega, rfl, Below.refl _ _⟩
      case round =>
        obtain ⟨k, k1, k5, rfl, hb⟩ := hrel
        by_cases hlt : k ≤ 4
        · have hk4 : (k : Int) ≤ 4 := by omega
          obtain ⟨j, hj⟩ : ∃ j, j + 1 = k := ⟨k - 1, by omega⟩
          obtain ⟨PF_a, PF_b, _, _⟩ := PF16.out.below hb
          have HEk := HE.out (k : Int)
          unfold ResS at HEk
          have hlk : lenK p q (k : Int) = if exsC p q (k : Int) = 0 then ((exsL p q (k : Int)).length : Int) else -1 := rfl
          have hat := lenP_at p q (show j < 4 by omega)
          rw [show ((j : Int) + 1) = (k : Int) by omega, hlk] at hat
          have hln := exsL_len p q (k : Int)
          generalize exsL p q (k : Int) = E at *
          generalize exsC p q (k : Int) = cE at *
          obtain ⟨NE, hNE⟩ : ∃ NE, E.length = NE := ⟨_, rfl⟩
          rw [hNE] at hat HEk hln
          replace HEk := Lib.hid HEk
          have HAt := Lib.hid hat
          have iw : IntKind.i64.wrap ((k : Int) - 1) = (j : Int) := by rw [IntWalk.i64_in _ (by omega)]; omega
          have i0 : (0 : Int) ≤ (j : Int) := by omega
          have i1 : (j : Int) < ((4 : Nat) : Int) := by omega
          have i2 : (j : Int) < 4 := by omega
          clear hlk hat hNE
          by_cases hE : cE = 0
          · subst hE
            go_wp2_with fail
            refine (HEk.out _).mono ?_
            rintro e w17 ⟨⟨A17, c17, rfl, _⟩, hb17⟩
            have hb2 := hb.trans (hb17.mono hb.size)
            obtain ⟨ad, z, rfl, hz, z1, z2, hc⟩ := (RR.out.below hb2).at_ (k := j) (by omega)
            have hzz := HAt.out
            rw [hz, if_pos trivial] at hzz
            injection hzz with hzz
            subst hzz
            clear hz PF_a PF_b
            have hj' := Lib.hid hj
            clear hj
            go_wp2_with fail
            go_roundw
            case rel => exact ⟨k + 1, by omega, by omega, by go_num, hb2⟩
            case measure => simp [intOf]; omega
          · have hEb : (cE == 0) = false := beq_eq_false_iff_ne.2 hE
            go_wp2_with fail
            refine (HEk.out _).mono ?_
            rintro e w17 ⟨⟨A17, c17, rfl, _⟩, hb17⟩
            have hb2 := hb.trans (hb17.mono hb.size)
            obtain ⟨ad, z, rfl, hz, z1, z2, hc⟩ := (RR.out.below hb2).at_ (k := j) (by omega)
            have hzz := HAt.out
            rw [hz, if_neg hE] at hzz
            injection hzz with hzz
            subst hzz
            clear hz PF_a PF_b
            have hj' := Lib.hid hj
            clear hj
            go_wp2_with fail
            go_roundw
            case rel => exact ⟨k + 1, by omega, by omega, by go_num, hb2⟩
            case measure => simp [intOf]; omega
        · obtain rfl : k = 5 := by omega
          have TT := Lib.hid (rT16.out.below hb)
          have MM := Lib.hid (rM16.out.below hb)
          have VV := Lib.hid (PV16.out.below hb)
          have BB := Lib.hid (HB16.out.trans (hb.mono HB16.out.size))
          by_cases hcS : cS = 0
          · obtain ⟨f1, f2, f3⟩ := HFin.out hcS
            have HVl := fun W h => implVal_any A5 M c5 Tf W h hc5
            rw [f3] at HVl
            replace HVl := Lib.hid HVl
            have F2 := Lib.hid f2
            clear f2 f3 HFin
            subst hcS
            go_wp2_with fail
            refine (HVl.out _ TT.out).mono ?_
            rintro e w20 ⟨rfl, hb20⟩
            have KK := Lib.hid (Pr.new w20 v1 v2 30)
            have V20 := Lib.hid ((VV.out.below hb20).alloc (.cells #[.int .i64 v1, .int .i64 v2] 30))
            have M20 := Lib.hid ((MM.out.below hb20).alloc (.cells #[.int .i64 v1, .int .i64 v2] 30))
            have B20 := Lib.hid (Below.al (BB.out.trans (hb20.mono BB.out.size)) (Nat.le_refl _) (.cells #[.int .i64 v1, .int .i64 v2] 30))
            obtain ⟨m, hm⟩ : ∃ m, m + 1 = N := ⟨N - 1, by omega⟩
            obtain ⟨bb, o, x1, y1, hA, hz1, _, _, _, _, hc1, hc2⟩ := M20.out.at_ (k := m) (by omega)
            subst hA
            have he : (x1, y1) = (v1, v2) := by
              have h := F2.out
              rw [show N - 1 = m by omega, hz1] at h
              injection h
            injection he with he1 he2
            subst he1 he2
            have hw1 : IntKind.i64.wrap ((N : Int) - 1) = (m : Int) := by rw [IntWalk.i64_in _ (by omega)]; omega
            have j0 : (0 : Int) ≤ (m : Int) := by omega
            have j1 : (m : Int) < (N : Int) := by omega
            obtain ⟨V_a, V_b, _, _⟩ := V20.out
            obtain ⟨K_a, K_b, _, _⟩ := KK.out
            replace hm := Lib.hid hm
            clear hz1 hb20
            go_wp2_with fail
            go_quiet (fail)
            go_wp2_with fail
            go_ret
            exact ⟨by simp, B20.out.trans (below_drewN _ _ _)⟩
          · have hcb : (cS == 0) = false := beq_eq_false_iff_ne.2 hcS
            go_wp2_with fail
            go_ret
            exact ⟨rfl, BB.out⟩
    · subst h1
      have TT := Lib.hid (rT16.out)
      have MM := Lib.hid (rM16.out)
      have VV := Lib.hid (PV16.out)
      have BB := Lib.hid (HB16.out)
      by_cases hcS : cS = 0
      · obtain ⟨f1, f2, f3⟩ := HFin.out hcS
        have HVl := fun W h => implVal_any A5 M c5 Tf W h hc5
        rw [f3] at HVl
        replace HVl := Lib.hid HVl
        have F2 := Lib.hid f2
        clear f2 f3 HFin
        subst hcS
        go_wp2_with fail
        refine (HVl.out _ TT.out).mono ?_
        rintro e w20 ⟨rfl, hb20⟩
        have KK := Lib.hid (Pr.new w20 v1 v2 30)
        have V20 := Lib.hid ((VV.out.below hb20).alloc (.cells #[.int .i64 v1, .int .i64 v2] 30))
        have M20 := Lib.hid ((MM.out.below hb20).alloc (.cells #[.int .i64 v1, .int .i64 v2] 30))
        have B20 := Lib.hid (Below.al (BB.out.trans (hb20.mono BB.out.size)) (Nat.le_refl _) (.cells #[.int .i64 v1, .int .i64 v2] 30))
        obtain ⟨m, hm⟩ : ∃ m, m + 1 = N := ⟨N - 1, by omega⟩
        obtain ⟨bb, o, x1, y1, hA, hz1, _, _, _, _, hc1, hc2⟩ := M20.out.at_ (k := m) (by omega)
        subst hA
        have he : (x1, y1) = (v1, v2) := by
          have h := F2.out
          rw [show N - 1 = m by omega, hz1] at h
          injection h
        injection he with he1 he2
        subst he1 he2
        have hw1 : IntKind.i64.wrap ((N : Int) - 1) = (m : Int) := by rw [IntWalk.i64_in _ (by omega)]; omega
        have j0 : (0 : Int) ≤ (m : Int) := by omega
        have j1 : (m : Int) < (N : Int) := by omega
        obtain ⟨V_a, V_b, _, _⟩ := V20.out
        obtain ⟨K_a, K_b, _, _⟩ := KK.out
        replace hm := Lib.hid hm
        clear hz1 hb20
        go_wp2_with fail
        go_quiet (fail)
        go_wp2_with fail
        go_ret
        exact ⟨by simp, B20.out.trans (below_drewN _ _ _)⟩
      · have hcb : (cS == 0) = false := beq_eq_false_iff_ne.2 hcS
        go_wp2_with fail
        go_ret
        exact ⟨rfl, BB.out⟩
  · rw [hn] at HL
    clear hn
    go_enter Try.func3, Try.ntmps3
    go_wp2_with fail
    refine HL.out.mono ?_
    rintro e w' ⟨rfl, rfl⟩
    go_wp2_with fail
    go_ret
    exact ⟨rfl, Below.refl _ _⟩
end Go.Proofs.Ytlpglibnjmjjkaa
