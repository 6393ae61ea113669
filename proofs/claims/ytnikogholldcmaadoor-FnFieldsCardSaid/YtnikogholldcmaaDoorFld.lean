/-
  The laws of fractions: the walk of the law FnFields.
  The table of the powers of ten and the two errors of strconv hold what their initialisers lay; MaxLen holds a number.
-/
import Derived.Test.YtnikogholldcmaaDoorProg
import Derived.Test.YtnikogholldcmaaDoorMem
import Derived.Test.YtnikogholldcmaaDoorBasic
import Derived.Test.YtnikogholldcmaaDoorSig
import Derived.Test.YtnikogholldcmaaDoorFrac
import Derived.Test.YtnikogholldcmaaDoorVfrac
import Derived.Test.YtnikogholldcmaaDoorFrac2
import Derived.Test.YtnikogholldcmaaDoorFrac3
import Derived.Test.YtnikogholldcmaaDoorFrac5
import Derived.Test.YtnikogholldcmaaDoorOwn
import Derived.Test.YtnikogholldcmaaDoorSrc
import Derived.Test.YtnikogholldcmaaDoorDrw
import Derived.Test.YtnikogholldcmaaDoorLng
import Derived.Test.YtnikogholldcmaaDoorByt
import Derived.Test.YtnikogholldcmaaDoorDec
import Derived.Test.YtnikogholldcmaaDoorFtx
import Derived.Test.YtnikogholldcmaaDoorRdd
import Derived.Test.YtnikogholldcmaaDoorSpl
import Derived.Test.YtnikogholldcmaaDoorRfrM
import Derived.Test.YtnikogholldcmaaDoorRfr
import Derived.Test.YtnikogholldcmaaDoorFldM
import Derived.Handy
import Derived.BigQuiet
import Derived.Deep.QuietTactic
import Derived.Deep.RegionHeld3
import Derived.Deep.DrawnRows
namespace Go.Proofs.YtnikogholldcmaaDoor
open Go.RowKit
set_option linter.unusedVariables false
set_option linter.unusedSimpArgs false
attribute [local go_sem ↓] Go.wp_at_zero Go.wp_at_succ

theorem frS_size {x y : Int} (hv : vfB x y = true) : (frS x y).size ≤ 1048576 := by
  obtain ⟨y1, y2, x1, x2, _⟩ := vfB_iff.1 hv
  have h1 := decS_size (n := x) (by omega) (by omega)
  have h2 := decS_size (n := y) (by omega) (by omega)
  unfold frS
  rw [if_pos hv]
  split
  · omega
  · rw [size_app, size_app]
    have : (⟨#[47]⟩ : ByteArray).size = 1 := rfl
    omega
set_option maxRecDepth 100000 in
set_option maxHeartbeats 3200000 in
theorem fnFields_walk (w : World) (A : Option Addr) (n cap : Nat) (xs : List Int) (hx : BRow w A n xs) (hd : Dr w) (he : Er w) (hm : Mx w) :
    Calls Tryd.prog 11 #[.slice A n cap] w fun e w' => e = .returned (.bool true) ∧ Below w.heap.size w w' := by
  have hbd := hx.2.1
  have HX := Lib.hid hx
  have HD := Lib.hid hd
  have HE := Lib.hid he
  have HM := Lib.hid hm
  have HL := Lib.hid (long_any A none n cap 0 0 w hbd (by omega))
  clear hx hd he hm
  cases hn : (decide ((3000 : Int) < n) || decide ((3000 : Int) < ((0 : Nat) : Int)))
  · rw [hn] at HL
    clear hn
    go_enter Tryd.func11, Tryd.ntmps11
    go_wp2_with fail
    refine HL.out.mono ?_
    rintro e w' ⟨rfl, rfl⟩
    go_wp2_with fail
    refine (a2Fractions_any A n cap xs w HX.out).mono ?_
    rintro e w1 ⟨⟨p, q, r, s, x, y, rfl, ⟨v1, p1, p2, q2⟩, ⟨v2, r1, r2, s2⟩, ⟨v3, x1, x2, _⟩⟩, hb1⟩
    have HB1 := Lib.hid hb1
    have HTx := Lib.hid (rf_text v3)
    have hxy := v3
    obtain ⟨sn, sd, mn, md, un, ud, e1, w1', e2, e3, w3', e4, e5, w5', e6, e7, e8⟩ := fields v1 v2 p1 p2 q2 r1 r2 s2
    have HAdd := Lib.hid (fun W => implAdd_any p q r s W)
    rw [opR_t v1 v2, e1] at HAdd
    have HSub := Lib.hid (fun W => implSub_any sn sd r s W)
    rw [opR_t w1' v2, e2] at HSub
    have HMul := Lib.hid (fun W => implMul_any p q r s W)
    rw [opR_t v1 v2, e3] at HMul
    have HMed := Lib.hid (fun W => implMed_any p q r s W)
    rw [opR_t v1 v2, e5] at HMed
    have HC1 := Lib.hid (fun W => implCmp_any p q r s W)
    rw [show cmpR p q r s = (cmpI (p * s) (r * q), 0) from if_pos ⟨v1, v2⟩] at HC1
    have HC2 := Lib.hid (fun W => implCmp_any r s p q W)
    rw [show cmpR r s p q = (cmpI (r * q) (p * s), 0) from if_pos ⟨v2, v1⟩, cmpI_neg (p * s) (r * q)] at HC2
    have HX1 := Lib.hid (fun W => specCmp_any p q un ud W)
    rw [show cmpR p q un ud = (cmpI (p * ud) (un * q), 0) from if_pos ⟨v1, w5'⟩, e6] at HX1
    have HX2 := Lib.hid (fun W => specCmp_any un ud r s W)
    rw [show cmpR un ud r s = (cmpI (un * s) (r * ud), 0) from if_pos ⟨w5', v2⟩, e7] at HX2
    have HV1 := Lib.hid (fun W => specValidFraction_any sn sd W)
    rw [w1'] at HV1
    have HV2 := Lib.hid (fun W => specValidFraction_any mn md W)
    rw [w3'] at HV2
    have HV3 := Lib.hid (fun W => specValidFraction_any un ud W)
    rw [w5'] at HV3
    have HDv := Lib.hid (fun W => implDiv_any mn md r s W)
    have hdv : divR mn md r s = if r = 0 then (0, 0, 6) else (p, q, 0) := by
      by_cases h : r = 0
      · rw [if_pos h, divR_z w3' v2 h]
      · rw [if_neg h, divR_t w3' v2 h, e4 h]
    rw [hdv] at HDv
    obtain ⟨c, hc⟩ : ∃ c, c = cmpI (p * s) (r * q) := ⟨_, rfl⟩
    rw [← hc] at HC1 HC2 HX1 HX2 e8
    have hc1 : -1 ≤ c ∧ c ≤ 1 := by rw [hc]; unfold cmpI; split <;> (try split) <;> omega
    have HE8 := Lib.hid e8
    clear e1 e2 e3 e4 e5 e6 e7 e8 w1' w3' w5' hc v1 v2 v3 hdv hb1
    have PA0 : Pr (((w1.alloc (.cells #[.int .i64 p, .int .i64 q] 33)).alloc (.cells #[.int .i64 r, .int .i64 s] 33)).alloc (.cells #[.int .i64 x, .int .i64 y] 33)) w1.heap.size p q := ((Pr.new w1 p q 33).below ((Below.refl _ _).alloc (Nat.le_refl _) _)).below ((Below.refl _ _).alloc (Nat.le_refl _) _)
    have PB0 : Pr (((w1.alloc (.cells #[.int .i64 p, .int .i64 q] 33)).alloc (.cells #[.int .i64 r, .int .i64 s] 33)).alloc (.cells #[.int .i64 x, .int .i64 y] 33)) (w1.heap.size + 1) r s := by
      have h := ((Pr.new (w1.alloc (.cells #[.int .i64 p, .int .i64 q] 33)) r s 33).below ((Below.refl _ _).alloc (Nat.le_refl _) (.cells #[.int .i64 x, .int .i64 y] 33)))
      simpa using h
    have PC0 : Pr (((w1.alloc (.cells #[.int .i64 p, .int .i64 q] 33)).alloc (.cells #[.int .i64 r, .int .i64 s] 33)).alloc (.cells #[.int .i64 x, .int .i64 y] 33)) (w1.heap.size + 1 + 1) x y := by
      have h := Pr.new ((w1.alloc (.cells #[.int .i64 p, .int .i64 q] 33)).alloc (.cells #[.int .i64 r, .int .i64 s] 33)) x y 33
      simpa using h
    have HB0 : Below w.heap.size w (((w1.alloc (.cells #[.int .i64 p, .int .i64 q] 33)).alloc (.cells #[.int .i64 r, .int .i64 s] 33)).alloc (.cells #[.int .i64 x, .int .i64 y] 33)) := ((HB1.out.alloc HB1.out.size _).alloc (by have := HB1.out.size; simp; omega) _).alloc (by have := HB1.out.size; simp; omega) _
    have PA0 := Lib.hid PA0
    have PB0 := Lib.hid PB0
    have PC0 := Lib.hid PC0
    have HB0 := Lib.hid HB0
    obtain ⟨PA_a, PA_b, _, _⟩ := PA0.out
    obtain ⟨PB_a, PB_b, _, _⟩ := PB0.out
    obtain ⟨PC_a, PC_b, _, _⟩ := PC0.out
    go_wp2_with fail
    refine (HAdd.out _).mono ?_
    rintro e w2 ⟨rfl, hb⟩
    clear PA_a PA_b PB_a PB_b PC_a PC_b
    have PA1 := Lib.hid ((PA0.out.below hb).below ((Below.refl _ _).alloc (Nat.le_refl _) (.cells #[.int .i64 sn, .int .i64 sd] 33)))
    have PB1 := Lib.hid ((PB0.out.below hb).below ((Below.refl _ _).alloc (Nat.le_refl _) (.cells #[.int .i64 sn, .int .i64 sd] 33)))
    have PC1 := Lib.hid ((PC0.out.below hb).below ((Below.refl _ _).alloc (Nat.le_refl _) (.cells #[.int .i64 sn, .int .i64 sd] 33)))
    have PS1 := Lib.hid (Pr.new w2 sn sd 33)
    have HB1 := Lib.hid ((HB0.out.trans (hb.mono HB0.out.size)).alloc (HB0.out.trans (hb.mono HB0.out.size)).size (.cells #[.int .i64 sn, .int .i64 sd] 33))
    clear hb PA0 PB0 PC0 HB0 HAdd
    obtain ⟨PA_a, PA_b, _, _⟩ := PA1.out
    obtain ⟨PB_a, PB_b, _, _⟩ := PB1.out
    obtain ⟨PC_a, PC_b, _, _⟩ := PC1.out
    obtain ⟨PS_a, PS_b, _, _⟩ := PS1.out
    go_wp2_with fail
    refine (HSub.out _).mono ?_
    rintro e w3 ⟨rfl, hb⟩
    clear PA_a PA_b PB_a PB_b PC_a PC_b PS_a PS_b
    have PA2 := Lib.hid ((PA1.out.below hb).below ((Below.refl _ _).alloc (Nat.le_refl _) (.cells #[.int .i64 p, .int .i64 q] 33)))
    have PB2 := Lib.hid ((PB1.out.below hb).below ((Below.refl _ _).alloc (Nat.le_refl _) (.cells #[.int .i64 p, .int .i64 q] 33)))
    have PC2 := Lib.hid ((PC1.out.below hb).below ((Below.refl _ _).alloc (Nat.le_refl _) (.cells #[.int .i64 p, .int .i64 q] 33)))
    have PS2 := Lib.hid ((PS1.out.below hb).below ((Below.refl _ _).alloc (Nat.le_refl _) (.cells #[.int .i64 p, .int .i64 q] 33)))
    have PK2 := Lib.hid (Pr.new w3 p q 33)
    have HB2 := Lib.hid ((HB1.out.trans (hb.mono HB1.out.size)).alloc (HB1.out.trans (hb.mono HB1.out.size)).size (.cells #[.int .i64 p, .int .i64 q] 33))
    clear hb PA1 PB1 PC1 PS1 HB1 HSub
    obtain ⟨PA_a, PA_b, _, _⟩ := PA2.out
    obtain ⟨PB_a, PB_b, _, _⟩ := PB2.out
    obtain ⟨PC_a, PC_b, _, _⟩ := PC2.out
    obtain ⟨PS_a, PS_b, _, _⟩ := PS2.out
    obtain ⟨PK_a, PK_b, _, _⟩ := PK2.out
    go_wp2_with fail
    refine (HMul.out _).mono ?_
    rintro e w4 ⟨rfl, hb⟩
    clear PA_a PA_b PB_a PB_b PC_a PC_b PS_a PS_b PK_a PK_b
    have PA3 := Lib.hid ((PA2.out.below hb).below ((Below.refl _ _).alloc (Nat.le_refl _) (.cells #[.int .i64 mn, .int .i64 md] 33)))
    have PB3 := Lib.hid ((PB2.out.below hb).below ((Below.refl _ _).alloc (Nat.le_refl _) (.cells #[.int .i64 mn, .int .i64 md] 33)))
    have PC3 := Lib.hid ((PC2.out.below hb).below ((Below.refl _ _).alloc (Nat.le_refl _) (.cells #[.int .i64 mn, .int .i64 md] 33)))
    have PS3 := Lib.hid ((PS2.out.below hb).below ((Below.refl _ _).alloc (Nat.le_refl _) (.cells #[.int .i64 mn, .int .i64 md] 33)))
    have PK3 := Lib.hid ((PK2.out.below hb).below ((Below.refl _ _).alloc (Nat.le_refl _) (.cells #[.int .i64 mn, .int .i64 md] 33)))
    have PM3 := Lib.hid (Pr.new w4 mn md 33)
    have HB3 := Lib.hid ((HB2.out.trans (hb.mono HB2.out.size)).alloc (HB2.out.trans (hb.mono HB2.out.size)).size (.cells #[.int .i64 mn, .int .i64 md] 33))
    clear hb PA2 PB2 PC2 PS2 PK2 HB2 HMul
    obtain ⟨PA_a, PA_b, _, _⟩ := PA3.out
    obtain ⟨PB_a, PB_b, _, _⟩ := PB3.out
    obtain ⟨PC_a, PC_b, _, _⟩ := PC3.out
    obtain ⟨PS_a, PS_b, _, _⟩ := PS3.out
    obtain ⟨PK_a, PK_b, _, _⟩ := PK3.out
    obtain ⟨PM_a, PM_b, _, _⟩ := PM3.out
    go_wp2_with fail
    refine (HMed.out _).mono ?_
    rintro e w5 ⟨rfl, hb⟩
    clear PA_a PA_b PB_a PB_b PC_a PC_b PS_a PS_b PK_a PK_b PM_a PM_b
    have PA4 := Lib.hid ((PA3.out.below hb).below ((Below.refl _ _).alloc (Nat.le_refl _) (.cells #[.int .i64 un, .int .i64 ud] 33)))
    have PB4 := Lib.hid ((PB3.out.below hb).below ((Below.refl _ _).alloc (Nat.le_refl _) (.cells #[.int .i64 un, .int .i64 ud] 33)))
    have PC4 := Lib.hid ((PC3.out.below hb).below ((Below.refl _ _).alloc (Nat.le_refl _) (.cells #[.int .i64 un, .int .i64 ud] 33)))
    have PS4 := Lib.hid ((PS3.out.below hb).below ((Below.refl _ _).alloc (Nat.le_refl _) (.cells #[.int .i64 un, .int .i64 ud] 33)))
    have PK4 := Lib.hid ((PK3.out.below hb).below ((Below.refl _ _).alloc (Nat.le_refl _) (.cells #[.int .i64 un, .int .i64 ud] 33)))
    have PM4 := Lib.hid ((PM3.out.below hb).below ((Below.refl _ _).alloc (Nat.le_refl _) (.cells #[.int .i64 un, .int .i64 ud] 33)))
    have PU4 := Lib.hid (Pr.new w5 un ud 33)
    have HB4 := Lib.hid ((HB3.out.trans (hb.mono HB3.out.size)).alloc (HB3.out.trans (hb.mono HB3.out.size)).size (.cells #[.int .i64 un, .int .i64 ud] 33))
    clear hb PA3 PB3 PC3 PS3 PK3 PM3 HB3 HMed
    obtain ⟨PA_a, PA_b, _, _⟩ := PA4.out
    obtain ⟨PB_a, PB_b, _, _⟩ := PB4.out
    obtain ⟨PC_a, PC_b, _, _⟩ := PC4.out
    obtain ⟨PS_a, PS_b, _, _⟩ := PS4.out
    obtain ⟨PK_a, PK_b, _, _⟩ := PK4.out
    obtain ⟨PM_a, PM_b, _, _⟩ := PM4.out
    obtain ⟨PU_a, PU_b, _, _⟩ := PU4.out
    go_wp2_with fail
    refine (HC1.out _).mono ?_
    rintro e w6 ⟨rfl, hb⟩
    clear PA_a PA_b PB_a PB_b PC_a PC_b PS_a PS_b PK_a PK_b PM_a PM_b PU_a PU_b
    have PA5 := Lib.hid (PA4.out.below hb)
    have PB5 := Lib.hid (PB4.out.below hb)
    have PC5 := Lib.hid (PC4.out.below hb)
    have PS5 := Lib.hid (PS4.out.below hb)
    have PK5 := Lib.hid (PK4.out.below hb)
    have PM5 := Lib.hid (PM4.out.below hb)
    have PU5 := Lib.hid (PU4.out.below hb)
    have HB5 := Lib.hid (HB4.out.trans (hb.mono HB4.out.size))
    clear hb PA4 PB4 PC4 PS4 PK4 PM4 PU4 HB4 HC1
    obtain ⟨PA_a, PA_b, _, _⟩ := PA5.out
    obtain ⟨PB_a, PB_b, _, _⟩ := PB5.out
    obtain ⟨PC_a, PC_b, _, _⟩ := PC5.out
    obtain ⟨PS_a, PS_b, _, _⟩ := PS5.out
    obtain ⟨PK_a, PK_b, _, _⟩ := PK5.out
    obtain ⟨PM_a, PM_b, _, _⟩ := PM5.out
    obtain ⟨PU_a, PU_b, _, _⟩ := PU5.out
    go_wp2_with fail
    refine (HC2.out _).mono ?_
    rintro e w7 ⟨rfl, hb⟩
    clear PA_a PA_b PB_a PB_b PC_a PC_b PS_a PS_b PK_a PK_b PM_a PM_b PU_a PU_b
    have PA6 := Lib.hid (PA5.out.below hb)
    have PB6 := Lib.hid (PB5.out.below hb)
    have PC6 := Lib.hid (PC5.out.below hb)
    have PS6 := Lib.hid (PS5.out.below hb)
    have PK6 := Lib.hid (PK5.out.below hb)
    have PM6 := Lib.hid (PM5.out.below hb)
    have PU6 := Lib.hid (PU5.out.below hb)
    have HB6 := Lib.hid (HB5.out.trans (hb.mono HB5.out.size))
    clear hb PA5 PB5 PC5 PS5 PK5 PM5 PU5 HB5 HC2
    obtain ⟨PA_a, PA_b, _, _⟩ := PA6.out
    obtain ⟨PB_a, PB_b, _, _⟩ := PB6.out
    obtain ⟨PC_a, PC_b, _, _⟩ := PC6.out
    obtain ⟨PS_a, PS_b, _, _⟩ := PS6.out
    obtain ⟨PK_a, PK_b, _, _⟩ := PK6.out
    obtain ⟨PM_a, PM_b, _, _⟩ := PM6.out
    obtain ⟨PU_a, PU_b, _, _⟩ := PU6.out
    have hsz : (frS x y).size ≤ 1048576 := frS_size hxy
    have HRf := Lib.hid (fun W d e m => implRfr_any (frS x y) W hsz d e m)
    rw [HTx.out] at HRf
    have HFt := Lib.hid (fun W d => implFtx_any x y W d)
    generalize frS x y = tt at *
    clear hsz HTx hxy
    obtain ⟨hc1, hc2⟩ := hc1
    have hcase : (c = 0 ∧ p = r ∧ q = s) ∨ (c ≠ 0 ∧ p ≠ r) ∨ (c ≠ 0 ∧ p = r ∧ q ≠ s) := by
      by_cases h : c = 0
      · exact .inl ⟨h, HE8.out.1 h⟩
      · by_cases h1 : p = r
        · exact .inr (.inr ⟨h, h1, fun h2 => h (HE8.out.2 ⟨h1, h2⟩)⟩)
        · exact .inr (.inl ⟨h, h1⟩)
    clear HE8
    rcases hcase with ⟨h0, h1, h2⟩ | ⟨h0, h1⟩ | ⟨h0, h1, h2⟩
    · subst h0 h1 h2
      go_wp2_with fail
      refine (HV1.out _).mono ?_
      rintro e w8 ⟨rfl, hb⟩
      clear PA_a PA_b PB_a PB_b PC_a PC_b PS_a PS_b PK_a PK_b PM_a PM_b PU_a PU_b
      have PA7 := Lib.hid (PA6.out.below hb)
      have PB7 := Lib.hid (PB6.out.below hb)
      have PC7 := Lib.hid (PC6.out.below hb)
      have PS7 := Lib.hid (PS6.out.below hb)
      have PK7 := Lib.hid (PK6.out.below hb)
      have PM7 := Lib.hid (PM6.out.below hb)
      have PU7 := Lib.hid (PU6.out.below hb)
      have HB7 := Lib.hid (HB6.out.trans (hb.mono HB6.out.size))
      clear hb PA6 PB6 PC6 PS6 PK6 PM6 PU6 HB6 HV1
      obtain ⟨PA_a, PA_b, _, _⟩ := PA7.out
      obtain ⟨PB_a, PB_b, _, _⟩ := PB7.out
      obtain ⟨PC_a, PC_b, _, _⟩ := PC7.out
      obtain ⟨PS_a, PS_b, _, _⟩ := PS7.out
      obtain ⟨PK_a, PK_b, _, _⟩ := PK7.out
      obtain ⟨PM_a, PM_b, _, _⟩ := PM7.out
      obtain ⟨PU_a, PU_b, _, _⟩ := PU7.out
      go_wp2_with fail
      refine (HV2.out _).mono ?_
      rintro e w9 ⟨rfl, hb⟩
      clear PA_a PA_b PB_a PB_b PC_a PC_b PS_a PS_b PK_a PK_b PM_a PM_b PU_a PU_b
      have PA8 := Lib.hid (PA7.out.below hb)
      have PB8 := Lib.hid (PB7.out.below hb)
      have PC8 := Lib.hid (PC7.out.below hb)
      have PS8 := Lib.hid (PS7.out.below hb)
      have PK8 := Lib.hid (PK7.out.below hb)
      have PM8 := Lib.hid (PM7.out.below hb)
      have PU8 := Lib.hid (PU7.out.below hb)
      have HB8 := Lib.hid (HB7.out.trans (hb.mono HB7.out.size))
      clear hb PA7 PB7 PC7 PS7 PK7 PM7 PU7 HB7 HV2
      obtain ⟨PA_a, PA_b, _, _⟩ := PA8.out
      obtain ⟨PB_a, PB_b, _, _⟩ := PB8.out
      obtain ⟨PC_a, PC_b, _, _⟩ := PC8.out
      obtain ⟨PS_a, PS_b, _, _⟩ := PS8.out
      obtain ⟨PK_a, PK_b, _, _⟩ := PK8.out
      obtain ⟨PM_a, PM_b, _, _⟩ := PM8.out
      obtain ⟨PU_a, PU_b, _, _⟩ := PU8.out
      go_wp2_with fail
      refine (HV3.out _).mono ?_
      rintro e w10 ⟨rfl, hb⟩
      clear PA_a PA_b PB_a PB_b PC_a PC_b PS_a PS_b PK_a PK_b PM_a PM_b PU_a PU_b
      have PA9 := Lib.hid (PA8.out.below hb)
      have PB9 := Lib.hid (PB8.out.below hb)
      have PC9 := Lib.hid (PC8.out.below hb)
      have PS9 := Lib.hid (PS8.out.below hb)
      have PK9 := Lib.hid (PK8.out.below hb)
      have PM9 := Lib.hid (PM8.out.below hb)
      have PU9 := Lib.hid (PU8.out.below hb)
      have HB9 := Lib.hid (HB8.out.trans (hb.mono HB8.out.size))
      clear hb PA8 PB8 PC8 PS8 PK8 PM8 PU8 HB8 HV3
      obtain ⟨PA_a, PA_b, _, _⟩ := PA9.out
      obtain ⟨PB_a, PB_b, _, _⟩ := PB9.out
      obtain ⟨PC_a, PC_b, _, _⟩ := PC9.out
      obtain ⟨PS_a, PS_b, _, _⟩ := PS9.out
      obtain ⟨PK_a, PK_b, _, _⟩ := PK9.out
      obtain ⟨PM_a, PM_b, _, _⟩ := PM9.out
      obtain ⟨PU_a, PU_b, _, _⟩ := PU9.out
      go_wp2_with fail
      refine (HX1.out _).mono ?_
      rintro e w11 ⟨rfl, hb⟩
      clear PA_a PA_b PB_a PB_b PC_a PC_b PS_a PS_b PK_a PK_b PM_a PM_b PU_a PU_b
      have PA10 := Lib.hid (PA9.out.below hb)
      have PB10 := Lib.hid (PB9.out.below hb)
      have PC10 := Lib.hid (PC9.out.below hb)
      have PS10 := Lib.hid (PS9.out.below hb)
      have PK10 := Lib.hid (PK9.out.below hb)
      have PM10 := Lib.hid (PM9.out.below hb)
      have PU10 := Lib.hid (PU9.out.below hb)
      have HB10 := Lib.hid (HB9.out.trans (hb.mono HB9.out.size))
      clear hb PA9 PB9 PC9 PS9 PK9 PM9 PU9 HB9 HX1
      obtain ⟨PA_a, PA_b, _, _⟩ := PA10.out
      obtain ⟨PB_a, PB_b, _, _⟩ := PB10.out
      obtain ⟨PC_a, PC_b, _, _⟩ := PC10.out
      obtain ⟨PS_a, PS_b, _, _⟩ := PS10.out
      obtain ⟨PK_a, PK_b, _, _⟩ := PK10.out
      obtain ⟨PM_a, PM_b, _, _⟩ := PM10.out
      obtain ⟨PU_a, PU_b, _, _⟩ := PU10.out
      go_wp2_with fail
      refine (HX2.out _).mono ?_
      rintro e w12 ⟨rfl, hb⟩
      clear PA_a PA_b PB_a PB_b PC_a PC_b PS_a PS_b PK_a PK_b PM_a PM_b PU_a PU_b
      have PA11 := Lib.hid (PA10.out.below hb)
      have PB11 := Lib.hid (PB10.out.below hb)
      have PC11 := Lib.hid (PC10.out.below hb)
      have PS11 := Lib.hid (PS10.out.below hb)
      have PK11 := Lib.hid (PK10.out.below hb)
      have PM11 := Lib.hid (PM10.out.below hb)
      have PU11 := Lib.hid (PU10.out.below hb)
      have HB11 := Lib.hid (HB10.out.trans (hb.mono HB10.out.size))
      clear hb PA10 PB10 PC10 PS10 PK10 PM10 PU10 HB10 HX2
      obtain ⟨PA_a, PA_b, _, _⟩ := PA11.out
      obtain ⟨PB_a, PB_b, _, _⟩ := PB11.out
      obtain ⟨PC_a, PC_b, _, _⟩ := PC11.out
      obtain ⟨PS_a, PS_b, _, _⟩ := PS11.out
      obtain ⟨PK_a, PK_b, _, _⟩ := PK11.out
      obtain ⟨PM_a, PM_b, _, _⟩ := PM11.out
      obtain ⟨PU_a, PU_b, _, _⟩ := PU11.out
      go_wp2_with fail
      refine (HFt.out _ (HD.out.below HB11.out)).mono ?_
      rintro e w13 ⟨rfl, hb⟩
      clear PA_a PA_b PB_a PB_b PC_a PC_b PS_a PS_b PK_a PK_b PM_a PM_b PU_a PU_b
      have PA12 := Lib.hid (PA11.out.below hb)
      have PB12 := Lib.hid (PB11.out.below hb)
      have PC12 := Lib.hid (PC11.out.below hb)
      have PS12 := Lib.hid (PS11.out.below hb)
      have PK12 := Lib.hid (PK11.out.below hb)
      have PM12 := Lib.hid (PM11.out.below hb)
      have PU12 := Lib.hid (PU11.out.below hb)
      have HB12 := Lib.hid (HB11.out.trans (hb.mono HB11.out.size))
      clear hb PA11 PB11 PC11 PS11 PK11 PM11 PU11 HB11 HFt
      obtain ⟨PA_a, PA_b, _, _⟩ := PA12.out
      obtain ⟨PB_a, PB_b, _, _⟩ := PB12.out
      obtain ⟨PC_a, PC_b, _, _⟩ := PC12.out
      obtain ⟨PS_a, PS_b, _, _⟩ := PS12.out
      obtain ⟨PK_a, PK_b, _, _⟩ := PK12.out
      obtain ⟨PM_a, PM_b, _, _⟩ := PM12.out
      obtain ⟨PU_a, PU_b, _, _⟩ := PU12.out
      go_wp2_with fail
      refine (HRf.out _ (HD.out.below HB12.out) (HE.out.below HB12.out) (HM.out.below HB12.out)).mono ?_
      rintro e w14 ⟨rfl, hb⟩
      clear PA_a PA_b PB_a PB_b PC_a PC_b PS_a PS_b PK_a PK_b PM_a PM_b PU_a PU_b
      have PA13 := Lib.hid ((PA12.out.below hb).below ((Below.refl _ _).alloc (Nat.le_refl _) (.cells #[.int .i64 x, .int .i64 y] 33)))
      have PB13 := Lib.hid ((PB12.out.below hb).below ((Below.refl _ _).alloc (Nat.le_refl _) (.cells #[.int .i64 x, .int .i64 y] 33)))
      have PC13 := Lib.hid ((PC12.out.below hb).below ((Below.refl _ _).alloc (Nat.le_refl _) (.cells #[.int .i64 x, .int .i64 y] 33)))
      have PS13 := Lib.hid ((PS12.out.below hb).below ((Below.refl _ _).alloc (Nat.le_refl _) (.cells #[.int .i64 x, .int .i64 y] 33)))
      have PK13 := Lib.hid ((PK12.out.below hb).below ((Below.refl _ _).alloc (Nat.le_refl _) (.cells #[.int .i64 x, .int .i64 y] 33)))
      have PM13 := Lib.hid ((PM12.out.below hb).below ((Below.refl _ _).alloc (Nat.le_refl _) (.cells #[.int .i64 x, .int .i64 y] 33)))
      have PU13 := Lib.hid ((PU12.out.below hb).below ((Below.refl _ _).alloc (Nat.le_refl _) (.cells #[.int .i64 x, .int .i64 y] 33)))
      have PF13 := Lib.hid (Pr.new w14 (x) (y) 33)
      have HB13 := Lib.hid ((HB12.out.trans (hb.mono HB12.out.size)).alloc (HB12.out.trans (hb.mono HB12.out.size)).size (.cells #[.int .i64 x, .int .i64 y] 33))
      clear hb PA12 PB12 PC12 PS12 PK12 PM12 PU12 HB12 HRf
      obtain ⟨PA_a, PA_b, _, _⟩ := PA13.out
      obtain ⟨PB_a, PB_b, _, _⟩ := PB13.out
      obtain ⟨PC_a, PC_b, _, _⟩ := PC13.out
      obtain ⟨PS_a, PS_b, _, _⟩ := PS13.out
      obtain ⟨PK_a, PK_b, _, _⟩ := PK13.out
      obtain ⟨PM_a, PM_b, _, _⟩ := PM13.out
      obtain ⟨PU_a, PU_b, _, _⟩ := PU13.out
      obtain ⟨PF_a, PF_b, _, _⟩ := PF13.out
      by_cases hr : p = 0
      · rw [if_pos hr] at HDv
        have HRz := Lib.hid hr
        clear hr
        go_wp2_with fail
        refine (HDv.out _).mono ?_
        rintro e w15 ⟨rfl, hb⟩
        clear PA_a PA_b PB_a PB_b PC_a PC_b PS_a PS_b PK_a PK_b PM_a PM_b PU_a PU_b PF_a PF_b
        have PA14 := Lib.hid ((PA13.out.below hb).below ((Below.refl _ _).alloc (Nat.le_refl _) (.cells #[.int .i64 0, .int .i64 0] 33)))
        have PB14 := Lib.hid ((PB13.out.below hb).below ((Below.refl _ _).alloc (Nat.le_refl _) (.cells #[.int .i64 0, .int .i64 0] 33)))
        have PC14 := Lib.hid ((PC13.out.below hb).below ((Below.refl _ _).alloc (Nat.le_refl _) (.cells #[.int .i64 0, .int .i64 0] 33)))
        have PS14 := Lib.hid ((PS13.out.below hb).below ((Below.refl _ _).alloc (Nat.le_refl _) (.cells #[.int .i64 0, .int .i64 0] 33)))
        have PK14 := Lib.hid ((PK13.out.below hb).below ((Below.refl _ _).alloc (Nat.le_refl _) (.cells #[.int .i64 0, .int .i64 0] 33)))
        have PM14 := Lib.hid ((PM13.out.below hb).below ((Below.refl _ _).alloc (Nat.le_refl _) (.cells #[.int .i64 0, .int .i64 0] 33)))
        have PU14 := Lib.hid ((PU13.out.below hb).below ((Below.refl _ _).alloc (Nat.le_refl _) (.cells #[.int .i64 0, .int .i64 0] 33)))
        have PF14 := Lib.hid ((PF13.out.below hb).below ((Below.refl _ _).alloc (Nat.le_refl _) (.cells #[.int .i64 0, .int .i64 0] 33)))
        have PQ14 := Lib.hid (Pr.new w15 (0) (0) 33)
        have HB14 := Lib.hid ((HB13.out.trans (hb.mono HB13.out.size)).alloc (HB13.out.trans (hb.mono HB13.out.size)).size (.cells #[.int .i64 0, .int .i64 0] 33))
        clear hb PA13 PB13 PC13 PS13 PK13 PM13 PU13 PF13 HB13 HDv
        obtain ⟨PA_a, PA_b, _, _⟩ := PA14.out
        obtain ⟨PB_a, PB_b, _, _⟩ := PB14.out
        obtain ⟨PC_a, PC_b, _, _⟩ := PC14.out
        obtain ⟨PS_a, PS_b, _, _⟩ := PS14.out
        obtain ⟨PK_a, PK_b, _, _⟩ := PK14.out
        obtain ⟨PM_a, PM_b, _, _⟩ := PM14.out
        obtain ⟨PU_a, PU_b, _, _⟩ := PU14.out
        obtain ⟨PF_a, PF_b, _, _⟩ := PF14.out
        obtain ⟨PQ_a, PQ_b, _, _⟩ := PQ14.out
        have hr := HRz.out
        have hrb : (p == 0) = true := beq_iff_eq.2 hr
        go_wp2_with fail
        go_ret
        exact ⟨rfl, HB14.out⟩
      · rw [if_neg hr] at HDv
        have HRz := Lib.hid hr
        clear hr
        go_wp2_with fail
        refine (HDv.out _).mono ?_
        rintro e w15 ⟨rfl, hb⟩
        clear PA_a PA_b PB_a PB_b PC_a PC_b PS_a PS_b PK_a PK_b PM_a PM_b PU_a PU_b PF_a PF_b
        have PA14 := Lib.hid ((PA13.out.below hb).below ((Below.refl _ _).alloc (Nat.le_refl _) (.cells #[.int .i64 p, .int .i64 q] 33)))
        have PB14 := Lib.hid ((PB13.out.below hb).below ((Below.refl _ _).alloc (Nat.le_refl _) (.cells #[.int .i64 p, .int .i64 q] 33)))
        have PC14 := Lib.hid ((PC13.out.below hb).below ((Below.refl _ _).alloc (Nat.le_refl _) (.cells #[.int .i64 p, .int .i64 q] 33)))
        have PS14 := Lib.hid ((PS13.out.below hb).below ((Below.refl _ _).alloc (Nat.le_refl _) (.cells #[.int .i64 p, .int .i64 q] 33)))
        have PK14 := Lib.hid ((PK13.out.below hb).below ((Below.refl _ _).alloc (Nat.le_refl _) (.cells #[.int .i64 p, .int .i64 q] 33)))
        have PM14 := Lib.hid ((PM13.out.below hb).below ((Below.refl _ _).alloc (Nat.le_refl _) (.cells #[.int .i64 p, .int .i64 q] 33)))
        have PU14 := Lib.hid ((PU13.out.below hb).below ((Below.refl _ _).alloc (Nat.le_refl _) (.cells #[.int .i64 p, .int .i64 q] 33)))
        have PF14 := Lib.hid ((PF13.out.below hb).below ((Below.refl _ _).alloc (Nat.le_refl _) (.cells #[.int .i64 p, .int .i64 q] 33)))
        have PQ14 := Lib.hid (Pr.new w15 (p) (q) 33)
        have HB14 := Lib.hid ((HB13.out.trans (hb.mono HB13.out.size)).alloc (HB13.out.trans (hb.mono HB13.out.size)).size (.cells #[.int .i64 p, .int .i64 q] 33))
        clear hb PA13 PB13 PC13 PS13 PK13 PM13 PU13 PF13 HB13 HDv
        obtain ⟨PA_a, PA_b, _, _⟩ := PA14.out
        obtain ⟨PB_a, PB_b, _, _⟩ := PB14.out
        obtain ⟨PC_a, PC_b, _, _⟩ := PC14.out
        obtain ⟨PS_a, PS_b, _, _⟩ := PS14.out
        obtain ⟨PK_a, PK_b, _, _⟩ := PK14.out
        obtain ⟨PM_a, PM_b, _, _⟩ := PM14.out
        obtain ⟨PU_a, PU_b, _, _⟩ := PU14.out
        obtain ⟨PF_a, PF_b, _, _⟩ := PF14.out
        obtain ⟨PQ_a, PQ_b, _, _⟩ := PQ14.out
        have hr := HRz.out
        have hrb : (p == 0) = false := beq_eq_false_iff_ne.2 hr
        go_wp2_with fail
        go_ret
        exact ⟨by simp, HB14.out⟩
    · have h0b : (c == 0) = false := beq_eq_false_iff_ne.2 h0
      go_wp2_with fail
      refine (HV1.out _).mono ?_
      rintro e w8 ⟨rfl, hb⟩
      clear PA_a PA_b PB_a PB_b PC_a PC_b PS_a PS_b PK_a PK_b PM_a PM_b PU_a PU_b
      have PA7 := Lib.hid (PA6.out.below hb)
      have PB7 := Lib.hid (PB6.out.below hb)
      have PC7 := Lib.hid (PC6.out.below hb)
      have PS7 := Lib.hid (PS6.out.below hb)
      have PK7 := Lib.hid (PK6.out.below hb)
      have PM7 := Lib.hid (PM6.out.below hb)
      have PU7 := Lib.hid (PU6.out.below hb)
      have HB7 := Lib.hid (HB6.out.trans (hb.mono HB6.out.size))
      clear hb PA6 PB6 PC6 PS6 PK6 PM6 PU6 HB6 HV1
      obtain ⟨PA_a, PA_b, _, _⟩ := PA7.out
      obtain ⟨PB_a, PB_b, _, _⟩ := PB7.out
      obtain ⟨PC_a, PC_b, _, _⟩ := PC7.out
      obtain ⟨PS_a, PS_b, _, _⟩ := PS7.out
      obtain ⟨PK_a, PK_b, _, _⟩ := PK7.out
      obtain ⟨PM_a, PM_b, _, _⟩ := PM7.out
      obtain ⟨PU_a, PU_b, _, _⟩ := PU7.out
      go_wp2_with fail
      refine (HV2.out _).mono ?_
      rintro e w9 ⟨rfl, hb⟩
      clear PA_a PA_b PB_a PB_b PC_a PC_b PS_a PS_b PK_a PK_b PM_a PM_b PU_a PU_b
      have PA8 := Lib.hid (PA7.out.below hb)
      have PB8 := Lib.hid (PB7.out.below hb)
      have PC8 := Lib.hid (PC7.out.below hb)
      have PS8 := Lib.hid (PS7.out.below hb)
      have PK8 := Lib.hid (PK7.out.below hb)
      have PM8 := Lib.hid (PM7.out.below hb)
      have PU8 := Lib.hid (PU7.out.below hb)
      have HB8 := Lib.hid (HB7.out.trans (hb.mono HB7.out.size))
      clear hb PA7 PB7 PC7 PS7 PK7 PM7 PU7 HB7 HV2
      obtain ⟨PA_a, PA_b, _, _⟩ := PA8.out
      obtain ⟨PB_a, PB_b, _, _⟩ := PB8.out
      obtain ⟨PC_a, PC_b, _, _⟩ := PC8.out
      obtain ⟨PS_a, PS_b, _, _⟩ := PS8.out
      obtain ⟨PK_a, PK_b, _, _⟩ := PK8.out
      obtain ⟨PM_a, PM_b, _, _⟩ := PM8.out
      obtain ⟨PU_a, PU_b, _, _⟩ := PU8.out
      go_wp2_with fail
      refine (HV3.out _).mono ?_
      rintro e w10 ⟨rfl, hb⟩
      clear PA_a PA_b PB_a PB_b PC_a PC_b PS_a PS_b PK_a PK_b PM_a PM_b PU_a PU_b
      have PA9 := Lib.hid (PA8.out.below hb)
      have PB9 := Lib.hid (PB8.out.below hb)
      have PC9 := Lib.hid (PC8.out.below hb)
      have PS9 := Lib.hid (PS8.out.below hb)
      have PK9 := Lib.hid (PK8.out.below hb)
      have PM9 := Lib.hid (PM8.out.below hb)
      have PU9 := Lib.hid (PU8.out.below hb)
      have HB9 := Lib.hid (HB8.out.trans (hb.mono HB8.out.size))
      clear hb PA8 PB8 PC8 PS8 PK8 PM8 PU8 HB8 HV3
      obtain ⟨PA_a, PA_b, _, _⟩ := PA9.out
      obtain ⟨PB_a, PB_b, _, _⟩ := PB9.out
      obtain ⟨PC_a, PC_b, _, _⟩ := PC9.out
      obtain ⟨PS_a, PS_b, _, _⟩ := PS9.out
      obtain ⟨PK_a, PK_b, _, _⟩ := PK9.out
      obtain ⟨PM_a, PM_b, _, _⟩ := PM9.out
      obtain ⟨PU_a, PU_b, _, _⟩ := PU9.out
      go_wp2_with fail
      refine (HX1.out _).mono ?_
      rintro e w11 ⟨rfl, hb⟩
      clear PA_a PA_b PB_a PB_b PC_a PC_b PS_a PS_b PK_a PK_b PM_a PM_b PU_a PU_b
      have PA10 := Lib.hid (PA9.out.below hb)
      have PB10 := Lib.hid (PB9.out.below hb)
      have PC10 := Lib.hid (PC9.out.below hb)
      have PS10 := Lib.hid (PS9.out.below hb)
      have PK10 := Lib.hid (PK9.out.below hb)
      have PM10 := Lib.hid (PM9.out.below hb)
      have PU10 := Lib.hid (PU9.out.below hb)
      have HB10 := Lib.hid (HB9.out.trans (hb.mono HB9.out.size))
      clear hb PA9 PB9 PC9 PS9 PK9 PM9 PU9 HB9 HX1
      obtain ⟨PA_a, PA_b, _, _⟩ := PA10.out
      obtain ⟨PB_a, PB_b, _, _⟩ := PB10.out
      obtain ⟨PC_a, PC_b, _, _⟩ := PC10.out
      obtain ⟨PS_a, PS_b, _, _⟩ := PS10.out
      obtain ⟨PK_a, PK_b, _, _⟩ := PK10.out
      obtain ⟨PM_a, PM_b, _, _⟩ := PM10.out
      obtain ⟨PU_a, PU_b, _, _⟩ := PU10.out
      go_wp2_with fail
      refine (HX2.out _).mono ?_
      rintro e w12 ⟨rfl, hb⟩
      clear PA_a PA_b PB_a PB_b PC_a PC_b PS_a PS_b PK_a PK_b PM_a PM_b PU_a PU_b
      have PA11 := Lib.hid (PA10.out.below hb)
      have PB11 := Lib.hid (PB10.out.below hb)
      have PC11 := Lib.hid (PC10.out.below hb)
      have PS11 := Lib.hid (PS10.out.below hb)
      have PK11 := Lib.hid (PK10.out.below hb)
      have PM11 := Lib.hid (PM10.out.below hb)
      have PU11 := Lib.hid (PU10.out.below hb)
      have HB11 := Lib.hid (HB10.out.trans (hb.mono HB10.out.size))
      clear hb PA10 PB10 PC10 PS10 PK10 PM10 PU10 HB10 HX2
      obtain ⟨PA_a, PA_b, _, _⟩ := PA11.out
      obtain ⟨PB_a, PB_b, _, _⟩ := PB11.out
      obtain ⟨PC_a, PC_b, _, _⟩ := PC11.out
      obtain ⟨PS_a, PS_b, _, _⟩ := PS11.out
      obtain ⟨PK_a, PK_b, _, _⟩ := PK11.out
      obtain ⟨PM_a, PM_b, _, _⟩ := PM11.out
      obtain ⟨PU_a, PU_b, _, _⟩ := PU11.out
      go_wp2_with fail
      refine (HFt.out _ (HD.out.below HB11.out)).mono ?_
      rintro e w13 ⟨rfl, hb⟩
      clear PA_a PA_b PB_a PB_b PC_a PC_b PS_a PS_b PK_a PK_b PM_a PM_b PU_a PU_b
      have PA12 := Lib.hid (PA11.out.below hb)
      have PB12 := Lib.hid (PB11.out.below hb)
      have PC12 := Lib.hid (PC11.out.below hb)
      have PS12 := Lib.hid (PS11.out.below hb)
      have PK12 := Lib.hid (PK11.out.below hb)
      have PM12 := Lib.hid (PM11.out.below hb)
      have PU12 := Lib.hid (PU11.out.below hb)
      have HB12 := Lib.hid (HB11.out.trans (hb.mono HB11.out.size))
      clear hb PA11 PB11 PC11 PS11 PK11 PM11 PU11 HB11 HFt
      obtain ⟨PA_a, PA_b, _, _⟩ := PA12.out
      obtain ⟨PB_a, PB_b, _, _⟩ := PB12.out
      obtain ⟨PC_a, PC_b, _, _⟩ := PC12.out
      obtain ⟨PS_a, PS_b, _, _⟩ := PS12.out
      obtain ⟨PK_a, PK_b, _, _⟩ := PK12.out
      obtain ⟨PM_a, PM_b, _, _⟩ := PM12.out
      obtain ⟨PU_a, PU_b, _, _⟩ := PU12.out
      go_wp2_with fail
      refine (HRf.out _ (HD.out.below HB12.out) (HE.out.below HB12.out) (HM.out.below HB12.out)).mono ?_
      rintro e w14 ⟨rfl, hb⟩
      clear PA_a PA_b PB_a PB_b PC_a PC_b PS_a PS_b PK_a PK_b PM_a PM_b PU_a PU_b
      have PA13 := Lib.hid ((PA12.out.below hb).below ((Below.refl _ _).alloc (Nat.le_refl _) (.cells #[.int .i64 x, .int .i64 y] 33)))
      have PB13 := Lib.hid ((PB12.out.below hb).below ((Below.refl _ _).alloc (Nat.le_refl _) (.cells #[.int .i64 x, .int .i64 y] 33)))
      have PC13 := Lib.hid ((PC12.out.below hb).below ((Below.refl _ _).alloc (Nat.le_refl _) (.cells #[.int .i64 x, .int .i64 y] 33)))
      have PS13 := Lib.hid ((PS12.out.below hb).below ((Below.refl _ _).alloc (Nat.le_refl _) (.cells #[.int .i64 x, .int .i64 y] 33)))
      have PK13 := Lib.hid ((PK12.out.below hb).below ((Below.refl _ _).alloc (Nat.le_refl _) (.cells #[.int .i64 x, .int .i64 y] 33)))
      have PM13 := Lib.hid ((PM12.out.below hb).below ((Below.refl _ _).alloc (Nat.le_refl _) (.cells #[.int .i64 x, .int .i64 y] 33)))
      have PU13 := Lib.hid ((PU12.out.below hb).below ((Below.refl _ _).alloc (Nat.le_refl _) (.cells #[.int .i64 x, .int .i64 y] 33)))
      have PF13 := Lib.hid (Pr.new w14 (x) (y) 33)
      have HB13 := Lib.hid ((HB12.out.trans (hb.mono HB12.out.size)).alloc (HB12.out.trans (hb.mono HB12.out.size)).size (.cells #[.int .i64 x, .int .i64 y] 33))
      clear hb PA12 PB12 PC12 PS12 PK12 PM12 PU12 HB12 HRf
      obtain ⟨PA_a, PA_b, _, _⟩ := PA13.out
      obtain ⟨PB_a, PB_b, _, _⟩ := PB13.out
      obtain ⟨PC_a, PC_b, _, _⟩ := PC13.out
      obtain ⟨PS_a, PS_b, _, _⟩ := PS13.out
      obtain ⟨PK_a, PK_b, _, _⟩ := PK13.out
      obtain ⟨PM_a, PM_b, _, _⟩ := PM13.out
      obtain ⟨PU_a, PU_b, _, _⟩ := PU13.out
      obtain ⟨PF_a, PF_b, _, _⟩ := PF13.out
      by_cases hr : r = 0
      · rw [if_pos hr] at HDv
        have HRz := Lib.hid hr
        clear hr
        go_wp2_with fail
        refine (HDv.out _).mono ?_
        rintro e w15 ⟨rfl, hb⟩
        clear PA_a PA_b PB_a PB_b PC_a PC_b PS_a PS_b PK_a PK_b PM_a PM_b PU_a PU_b PF_a PF_b
        have PA14 := Lib.hid ((PA13.out.below hb).below ((Below.refl _ _).alloc (Nat.le_refl _) (.cells #[.int .i64 0, .int .i64 0] 33)))
        have PB14 := Lib.hid ((PB13.out.below hb).below ((Below.refl _ _).alloc (Nat.le_refl _) (.cells #[.int .i64 0, .int .i64 0] 33)))
        have PC14 := Lib.hid ((PC13.out.below hb).below ((Below.refl _ _).alloc (Nat.le_refl _) (.cells #[.int .i64 0, .int .i64 0] 33)))
        have PS14 := Lib.hid ((PS13.out.below hb).below ((Below.refl _ _).alloc (Nat.le_refl _) (.cells #[.int .i64 0, .int .i64 0] 33)))
        have PK14 := Lib.hid ((PK13.out.below hb).below ((Below.refl _ _).alloc (Nat.le_refl _) (.cells #[.int .i64 0, .int .i64 0] 33)))
        have PM14 := Lib.hid ((PM13.out.below hb).below ((Below.refl _ _).alloc (Nat.le_refl _) (.cells #[.int .i64 0, .int .i64 0] 33)))
        have PU14 := Lib.hid ((PU13.out.below hb).below ((Below.refl _ _).alloc (Nat.le_refl _) (.cells #[.int .i64 0, .int .i64 0] 33)))
        have PF14 := Lib.hid ((PF13.out.below hb).below ((Below.refl _ _).alloc (Nat.le_refl _) (.cells #[.int .i64 0, .int .i64 0] 33)))
        have PQ14 := Lib.hid (Pr.new w15 (0) (0) 33)
        have HB14 := Lib.hid ((HB13.out.trans (hb.mono HB13.out.size)).alloc (HB13.out.trans (hb.mono HB13.out.size)).size (.cells #[.int .i64 0, .int .i64 0] 33))
        clear hb PA13 PB13 PC13 PS13 PK13 PM13 PU13 PF13 HB13 HDv
        obtain ⟨PA_a, PA_b, _, _⟩ := PA14.out
        obtain ⟨PB_a, PB_b, _, _⟩ := PB14.out
        obtain ⟨PC_a, PC_b, _, _⟩ := PC14.out
        obtain ⟨PS_a, PS_b, _, _⟩ := PS14.out
        obtain ⟨PK_a, PK_b, _, _⟩ := PK14.out
        obtain ⟨PM_a, PM_b, _, _⟩ := PM14.out
        obtain ⟨PU_a, PU_b, _, _⟩ := PU14.out
        obtain ⟨PF_a, PF_b, _, _⟩ := PF14.out
        obtain ⟨PQ_a, PQ_b, _, _⟩ := PQ14.out
        have hr := HRz.out
        have hrb : (r == 0) = true := beq_iff_eq.2 hr
        go_wp2_with fail
        go_ret
        exact ⟨rfl, HB14.out⟩
      · rw [if_neg hr] at HDv
        have HRz := Lib.hid hr
        clear hr
        go_wp2_with fail
        refine (HDv.out _).mono ?_
        rintro e w15 ⟨rfl, hb⟩
        clear PA_a PA_b PB_a PB_b PC_a PC_b PS_a PS_b PK_a PK_b PM_a PM_b PU_a PU_b PF_a PF_b
        have PA14 := Lib.hid ((PA13.out.below hb).below ((Below.refl _ _).alloc (Nat.le_refl _) (.cells #[.int .i64 p, .int .i64 q] 33)))
        have PB14 := Lib.hid ((PB13.out.below hb).below ((Below.refl _ _).alloc (Nat.le_refl _) (.cells #[.int .i64 p, .int .i64 q] 33)))
        have PC14 := Lib.hid ((PC13.out.below hb).below ((Below.refl _ _).alloc (Nat.le_refl _) (.cells #[.int .i64 p, .int .i64 q] 33)))
        have PS14 := Lib.hid ((PS13.out.below hb).below ((Below.refl _ _).alloc (Nat.le_refl _) (.cells #[.int .i64 p, .int .i64 q] 33)))
        have PK14 := Lib.hid ((PK13.out.below hb).below ((Below.refl _ _).alloc (Nat.le_refl _) (.cells #[.int .i64 p, .int .i64 q] 33)))
        have PM14 := Lib.hid ((PM13.out.below hb).below ((Below.refl _ _).alloc (Nat.le_refl _) (.cells #[.int .i64 p, .int .i64 q] 33)))
        have PU14 := Lib.hid ((PU13.out.below hb).below ((Below.refl _ _).alloc (Nat.le_refl _) (.cells #[.int .i64 p, .int .i64 q] 33)))
        have PF14 := Lib.hid ((PF13.out.below hb).below ((Below.refl _ _).alloc (Nat.le_refl _) (.cells #[.int .i64 p, .int .i64 q] 33)))
        have PQ14 := Lib.hid (Pr.new w15 (p) (q) 33)
        have HB14 := Lib.hid ((HB13.out.trans (hb.mono HB13.out.size)).alloc (HB13.out.trans (hb.mono HB13.out.size)).size (.cells #[.int .i64 p, .int .i64 q] 33))
        clear hb PA13 PB13 PC13 PS13 PK13 PM13 PU13 PF13 HB13 HDv
        obtain ⟨PA_a, PA_b, _, _⟩ := PA14.out
        obtain ⟨PB_a, PB_b, _, _⟩ := PB14.out
        obtain ⟨PC_a, PC_b, _, _⟩ := PC14.out
        obtain ⟨PS_a, PS_b, _, _⟩ := PS14.out
        obtain ⟨PK_a, PK_b, _, _⟩ := PK14.out
        obtain ⟨PM_a, PM_b, _, _⟩ := PM14.out
        obtain ⟨PU_a, PU_b, _, _⟩ := PU14.out
        obtain ⟨PF_a, PF_b, _, _⟩ := PF14.out
        obtain ⟨PQ_a, PQ_b, _, _⟩ := PQ14.out
        have hr := HRz.out
        have hrb : (r == 0) = false := beq_eq_false_iff_ne.2 hr
        go_wp2_with fail
        go_ret
        exact ⟨by simp, HB14.out⟩
    · subst h1
      have h0b : (c == 0) = false := beq_eq_false_iff_ne.2 h0
      go_wp2_with fail
      refine (HV1.out _).mono ?_
      rintro e w8 ⟨rfl, hb⟩
      clear PA_a PA_b PB_a PB_b PC_a PC_b PS_a PS_b PK_a PK_b PM_a PM_b PU_a PU_b
      have PA7 := Lib.hid (PA6.out.below hb)
      have PB7 := Lib.hid (PB6.out.below hb)
      have PC7 := Lib.hid (PC6.out.below hb)
      have PS7 := Lib.hid (PS6.out.below hb)
      have PK7 := Lib.hid (PK6.out.below hb)
      have PM7 := Lib.hid (PM6.out.below hb)
      have PU7 := Lib.hid (PU6.out.below hb)
      have HB7 := Lib.hid (HB6.out.trans (hb.mono HB6.out.size))
      clear hb PA6 PB6 PC6 PS6 PK6 PM6 PU6 HB6 HV1
      obtain ⟨PA_a, PA_b, _, _⟩ := PA7.out
      obtain ⟨PB_a, PB_b, _, _⟩ := PB7.out
      obtain ⟨PC_a, PC_b, _, _⟩ := PC7.out
      obtain ⟨PS_a, PS_b, _, _⟩ := PS7.out
      obtain ⟨PK_a, PK_b, _, _⟩ := PK7.out
      obtain ⟨PM_a, PM_b, _, _⟩ := PM7.out
      obtain ⟨PU_a, PU_b, _, _⟩ := PU7.out
      go_wp2_with fail
      refine (HV2.out _).mono ?_
      rintro e w9 ⟨rfl, hb⟩
      clear PA_a PA_b PB_a PB_b PC_a PC_b PS_a PS_b PK_a PK_b PM_a PM_b PU_a PU_b
      have PA8 := Lib.hid (PA7.out.below hb)
      have PB8 := Lib.hid (PB7.out.below hb)
      have PC8 := Lib.hid (PC7.out.below hb)
      have PS8 := Lib.hid (PS7.out.below hb)
      have PK8 := Lib.hid (PK7.out.below hb)
      have PM8 := Lib.hid (PM7.out.below hb)
      have PU8 := Lib.hid (PU7.out.below hb)
      have HB8 := Lib.hid (HB7.out.trans (hb.mono HB7.out.size))
      clear hb PA7 PB7 PC7 PS7 PK7 PM7 PU7 HB7 HV2
      obtain ⟨PA_a, PA_b, _, _⟩ := PA8.out
      obtain ⟨PB_a, PB_b, _, _⟩ := PB8.out
      obtain ⟨PC_a, PC_b, _, _⟩ := PC8.out
      obtain ⟨PS_a, PS_b, _, _⟩ := PS8.out
      obtain ⟨PK_a, PK_b, _, _⟩ := PK8.out
      obtain ⟨PM_a, PM_b, _, _⟩ := PM8.out
      obtain ⟨PU_a, PU_b, _, _⟩ := PU8.out
      go_wp2_with fail
      refine (HV3.out _).mono ?_
      rintro e w10 ⟨rfl, hb⟩
      clear PA_a PA_b PB_a PB_b PC_a PC_b PS_a PS_b PK_a PK_b PM_a PM_b PU_a PU_b
      have PA9 := Lib.hid (PA8.out.below hb)
      have PB9 := Lib.hid (PB8.out.below hb)
      have PC9 := Lib.hid (PC8.out.below hb)
      have PS9 := Lib.hid (PS8.out.below hb)
      have PK9 := Lib.hid (PK8.out.below hb)
      have PM9 := Lib.hid (PM8.out.below hb)
      have PU9 := Lib.hid (PU8.out.below hb)
      have HB9 := Lib.hid (HB8.out.trans (hb.mono HB8.out.size))
      clear hb PA8 PB8 PC8 PS8 PK8 PM8 PU8 HB8 HV3
      obtain ⟨PA_a, PA_b, _, _⟩ := PA9.out
      obtain ⟨PB_a, PB_b, _, _⟩ := PB9.out
      obtain ⟨PC_a, PC_b, _, _⟩ := PC9.out
      obtain ⟨PS_a, PS_b, _, _⟩ := PS9.out
      obtain ⟨PK_a, PK_b, _, _⟩ := PK9.out
      obtain ⟨PM_a, PM_b, _, _⟩ := PM9.out
      obtain ⟨PU_a, PU_b, _, _⟩ := PU9.out
      go_wp2_with fail
      refine (HX1.out _).mono ?_
      rintro e w11 ⟨rfl, hb⟩
      clear PA_a PA_b PB_a PB_b PC_a PC_b PS_a PS_b PK_a PK_b PM_a PM_b PU_a PU_b
      have PA10 := Lib.hid (PA9.out.below hb)
      have PB10 := Lib.hid (PB9.out.below hb)
      have PC10 := Lib.hid (PC9.out.below hb)
      have PS10 := Lib.hid (PS9.out.below hb)
      have PK10 := Lib.hid (PK9.out.below hb)
      have PM10 := Lib.hid (PM9.out.below hb)
      have PU10 := Lib.hid (PU9.out.below hb)
      have HB10 := Lib.hid (HB9.out.trans (hb.mono HB9.out.size))
      clear hb PA9 PB9 PC9 PS9 PK9 PM9 PU9 HB9 HX1
      obtain ⟨PA_a, PA_b, _, _⟩ := PA10.out
      obtain ⟨PB_a, PB_b, _, _⟩ := PB10.out
      obtain ⟨PC_a, PC_b, _, _⟩ := PC10.out
      obtain ⟨PS_a, PS_b, _, _⟩ := PS10.out
      obtain ⟨PK_a, PK_b, _, _⟩ := PK10.out
      obtain ⟨PM_a, PM_b, _, _⟩ := PM10.out
      obtain ⟨PU_a, PU_b, _, _⟩ := PU10.out
      go_wp2_with fail
      refine (HX2.out _).mono ?_
      rintro e w12 ⟨rfl, hb⟩
      clear PA_a PA_b PB_a PB_b PC_a PC_b PS_a PS_b PK_a PK_b PM_a PM_b PU_a PU_b
      have PA11 := Lib.hid (PA10.out.below hb)
      have PB11 := Lib.hid (PB10.out.below hb)
      have PC11 := Lib.hid (PC10.out.below hb)
      have PS11 := Lib.hid (PS10.out.below hb)
      have PK11 := Lib.hid (PK10.out.below hb)
      have PM11 := Lib.hid (PM10.out.below hb)
      have PU11 := Lib.hid (PU10.out.below hb)
      have HB11 := Lib.hid (HB10.out.trans (hb.mono HB10.out.size))
      clear hb PA10 PB10 PC10 PS10 PK10 PM10 PU10 HB10 HX2
      obtain ⟨PA_a, PA_b, _, _⟩ := PA11.out
      obtain ⟨PB_a, PB_b, _, _⟩ := PB11.out
      obtain ⟨PC_a, PC_b, _, _⟩ := PC11.out
      obtain ⟨PS_a, PS_b, _, _⟩ := PS11.out
      obtain ⟨PK_a, PK_b, _, _⟩ := PK11.out
      obtain ⟨PM_a, PM_b, _, _⟩ := PM11.out
      obtain ⟨PU_a, PU_b, _, _⟩ := PU11.out
      go_wp2_with fail
      refine (HFt.out _ (HD.out.below HB11.out)).mono ?_
      rintro e w13 ⟨rfl, hb⟩
      clear PA_a PA_b PB_a PB_b PC_a PC_b PS_a PS_b PK_a PK_b PM_a PM_b PU_a PU_b
      have PA12 := Lib.hid (PA11.out.below hb)
      have PB12 := Lib.hid (PB11.out.below hb)
      have PC12 := Lib.hid (PC11.out.below hb)
      have PS12 := Lib.hid (PS11.out.below hb)
      have PK12 := Lib.hid (PK11.out.below hb)
      have PM12 := Lib.hid (PM11.out.below hb)
      have PU12 := Lib.hid (PU11.out.below hb)
      have HB12 := Lib.hid (HB11.out.trans (hb.mono HB11.out.size))
      clear hb PA11 PB11 PC11 PS11 PK11 PM11 PU11 HB11 HFt
      obtain ⟨PA_a, PA_b, _, _⟩ := PA12.out
      obtain ⟨PB_a, PB_b, _, _⟩ := PB12.out
      obtain ⟨PC_a, PC_b, _, _⟩ := PC12.out
      obtain ⟨PS_a, PS_b, _, _⟩ := PS12.out
      obtain ⟨PK_a, PK_b, _, _⟩ := PK12.out
      obtain ⟨PM_a, PM_b, _, _⟩ := PM12.out
      obtain ⟨PU_a, PU_b, _, _⟩ := PU12.out
      go_wp2_with fail
      refine (HRf.out _ (HD.out.below HB12.out) (HE.out.below HB12.out) (HM.out.below HB12.out)).mono ?_
      rintro e w14 ⟨rfl, hb⟩
      clear PA_a PA_b PB_a PB_b PC_a PC_b PS_a PS_b PK_a PK_b PM_a PM_b PU_a PU_b
      have PA13 := Lib.hid ((PA12.out.below hb).below ((Below.refl _ _).alloc (Nat.le_refl _) (.cells #[.int .i64 x, .int .i64 y] 33)))
      have PB13 := Lib.hid ((PB12.out.below hb).below ((Below.refl _ _).alloc (Nat.le_refl _) (.cells #[.int .i64 x, .int .i64 y] 33)))
      have PC13 := Lib.hid ((PC12.out.below hb).below ((Below.refl _ _).alloc (Nat.le_refl _) (.cells #[.int .i64 x, .int .i64 y] 33)))
      have PS13 := Lib.hid ((PS12.out.below hb).below ((Below.refl _ _).alloc (Nat.le_refl _) (.cells #[.int .i64 x, .int .i64 y] 33)))
      have PK13 := Lib.hid ((PK12.out.below hb).below ((Below.refl _ _).alloc (Nat.le_refl _) (.cells #[.int .i64 x, .int .i64 y] 33)))
      have PM13 := Lib.hid ((PM12.out.below hb).below ((Below.refl _ _).alloc (Nat.le_refl _) (.cells #[.int .i64 x, .int .i64 y] 33)))
      have PU13 := Lib.hid ((PU12.out.below hb).below ((Below.refl _ _).alloc (Nat.le_refl _) (.cells #[.int .i64 x, .int .i64 y] 33)))
      have PF13 := Lib.hid (Pr.new w14 (x) (y) 33)
      have HB13 := Lib.hid ((HB12.out.trans (hb.mono HB12.out.size)).alloc (HB12.out.trans (hb.mono HB12.out.size)).size (.cells #[.int .i64 x, .int .i64 y] 33))
      clear hb PA12 PB12 PC12 PS12 PK12 PM12 PU12 HB12 HRf
      obtain ⟨PA_a, PA_b, _, _⟩ := PA13.out
      obtain ⟨PB_a, PB_b, _, _⟩ := PB13.out
      obtain ⟨PC_a, PC_b, _, _⟩ := PC13.out
      obtain ⟨PS_a, PS_b, _, _⟩ := PS13.out
      obtain ⟨PK_a, PK_b, _, _⟩ := PK13.out
      obtain ⟨PM_a, PM_b, _, _⟩ := PM13.out
      obtain ⟨PU_a, PU_b, _, _⟩ := PU13.out
      obtain ⟨PF_a, PF_b, _, _⟩ := PF13.out
      by_cases hr : p = 0
      · rw [if_pos hr] at HDv
        have HRz := Lib.hid hr
        clear hr
        go_wp2_with fail
        refine (HDv.out _).mono ?_
        rintro e w15 ⟨rfl, hb⟩
        clear PA_a PA_b PB_a PB_b PC_a PC_b PS_a PS_b PK_a PK_b PM_a PM_b PU_a PU_b PF_a PF_b
        have PA14 := Lib.hid ((PA13.out.below hb).below ((Below.refl _ _).alloc (Nat.le_refl _) (.cells #[.int .i64 0, .int .i64 0] 33)))
        have PB14 := Lib.hid ((PB13.out.below hb).below ((Below.refl _ _).alloc (Nat.le_refl _) (.cells #[.int .i64 0, .int .i64 0] 33)))
        have PC14 := Lib.hid ((PC13.out.below hb).below ((Below.refl _ _).alloc (Nat.le_refl _) (.cells #[.int .i64 0, .int .i64 0] 33)))
        have PS14 := Lib.hid ((PS13.out.below hb).below ((Below.refl _ _).alloc (Nat.le_refl _) (.cells #[.int .i64 0, .int .i64 0] 33)))
        have PK14 := Lib.hid ((PK13.out.below hb).below ((Below.refl _ _).alloc (Nat.le_refl _) (.cells #[.int .i64 0, .int .i64 0] 33)))
        have PM14 := Lib.hid ((PM13.out.below hb).below ((Below.refl _ _).alloc (Nat.le_refl _) (.cells #[.int .i64 0, .int .i64 0] 33)))
        have PU14 := Lib.hid ((PU13.out.below hb).below ((Below.refl _ _).alloc (Nat.le_refl _) (.cells #[.int .i64 0, .int .i64 0] 33)))
        have PF14 := Lib.hid ((PF13.out.below hb).below ((Below.refl _ _).alloc (Nat.le_refl _) (.cells #[.int .i64 0, .int .i64 0] 33)))
        have PQ14 := Lib.hid (Pr.new w15 (0) (0) 33)
        have HB14 := Lib.hid ((HB13.out.trans (hb.mono HB13.out.size)).alloc (HB13.out.trans (hb.mono HB13.out.size)).size (.cells #[.int .i64 0, .int .i64 0] 33))
        clear hb PA13 PB13 PC13 PS13 PK13 PM13 PU13 PF13 HB13 HDv
        obtain ⟨PA_a, PA_b, _, _⟩ := PA14.out
        obtain ⟨PB_a, PB_b, _, _⟩ := PB14.out
        obtain ⟨PC_a, PC_b, _, _⟩ := PC14.out
        obtain ⟨PS_a, PS_b, _, _⟩ := PS14.out
        obtain ⟨PK_a, PK_b, _, _⟩ := PK14.out
        obtain ⟨PM_a, PM_b, _, _⟩ := PM14.out
        obtain ⟨PU_a, PU_b, _, _⟩ := PU14.out
        obtain ⟨PF_a, PF_b, _, _⟩ := PF14.out
        obtain ⟨PQ_a, PQ_b, _, _⟩ := PQ14.out
        have hr := HRz.out
        have hrb : (p == 0) = true := beq_iff_eq.2 hr
        go_wp2_with fail
        go_ret
        exact ⟨rfl, HB14.out⟩
      · rw [if_neg hr] at HDv
        have HRz := Lib.hid hr
        clear hr
        go_wp2_with fail
        refine (HDv.out _).mono ?_
        rintro e w15 ⟨rfl, hb⟩
        clear PA_a PA_b PB_a PB_b PC_a PC_b PS_a PS_b PK_a PK_b PM_a PM_b PU_a PU_b PF_a PF_b
        have PA14 := Lib.hid ((PA13.out.below hb).below ((Below.refl _ _).alloc (Nat.le_refl _) (.cells #[.int .i64 p, .int .i64 q] 33)))
        have PB14 := Lib.hid ((PB13.out.below hb).below ((Below.refl _ _).alloc (Nat.le_refl _) (.cells #[.int .i64 p, .int .i64 q] 33)))
        have PC14 := Lib.hid ((PC13.out.below hb).below ((Below.refl _ _).alloc (Nat.le_refl _) (.cells #[.int .i64 p, .int .i64 q] 33)))
        have PS14 := Lib.hid ((PS13.out.below hb).below ((Below.refl _ _).alloc (Nat.le_refl _) (.cells #[.int .i64 p, .int .i64 q] 33)))
        have PK14 := Lib.hid ((PK13.out.below hb).below ((Below.refl _ _).alloc (Nat.le_refl _) (.cells #[.int .i64 p, .int .i64 q] 33)))
        have PM14 := Lib.hid ((PM13.out.below hb).below ((Below.refl _ _).alloc (Nat.le_refl _) (.cells #[.int .i64 p, .int .i64 q] 33)))
        have PU14 := Lib.hid ((PU13.out.below hb).below ((Below.refl _ _).alloc (Nat.le_refl _) (.cells #[.int .i64 p, .int .i64 q] 33)))
        have PF14 := Lib.hid ((PF13.out.below hb).below ((Below.refl _ _).alloc (Nat.le_refl _) (.cells #[.int .i64 p, .int .i64 q] 33)))
        have PQ14 := Lib.hid (Pr.new w15 (p) (q) 33)
        have HB14 := Lib.hid ((HB13.out.trans (hb.mono HB13.out.size)).alloc (HB13.out.trans (hb.mono HB13.out.size)).size (.cells #[.int .i64 p, .int .i64 q] 33))
        clear hb PA13 PB13 PC13 PS13 PK13 PM13 PU13 PF13 HB13 HDv
        obtain ⟨PA_a, PA_b, _, _⟩ := PA14.out
        obtain ⟨PB_a, PB_b, _, _⟩ := PB14.out
        obtain ⟨PC_a, PC_b, _, _⟩ := PC14.out
        obtain ⟨PS_a, PS_b, _, _⟩ := PS14.out
        obtain ⟨PK_a, PK_b, _, _⟩ := PK14.out
        obtain ⟨PM_a, PM_b, _, _⟩ := PM14.out
        obtain ⟨PU_a, PU_b, _, _⟩ := PU14.out
        obtain ⟨PF_a, PF_b, _, _⟩ := PF14.out
        obtain ⟨PQ_a, PQ_b, _, _⟩ := PQ14.out
        have hr := HRz.out
        have hrb : (p == 0) = false := beq_eq_false_iff_ne.2 hr
        go_wp2_with fail
        go_ret
        exact ⟨by simp, HB14.out⟩
  · rw [hn] at HL
    clear hn
    go_enter Tryd.func11, Tryd.ntmps11
    go_wp2_with fail
    refine HL.out.mono ?_
    rintro e w' ⟨rfl, rfl⟩
    go_wp2_with fail
    go_ret
    exact ⟨rfl, Below.refl _ _⟩
end Go.Proofs.YtnikogholldcmaaDoor
