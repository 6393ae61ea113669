/-
  The bounds of fractions: contracts of the program's and of the reference's functions; the walk of the law FnExactBoundsOf.
  No condition but those of the law's own text.
-/
import Derived.Test.YtbpaihbpaeoljaaProg
import Derived.Test.YtbpaihbpaeoljaaMem
import Derived.Test.YtbpaihbpaeoljaaBasic
import Derived.Test.YtbpaihbpaeoljaaFrac
import Derived.Test.YtbpaihbpaeoljaaFrac2
import Derived.Test.YtbpaihbpaeoljaaMarks
import Derived.Test.YtbpaihbpaeoljaaOwn
import Derived.Test.YtbpaihbpaeoljaaShort
import Derived.Test.YtbpaihbpaeoljaaExp
import Derived.Test.YtbpaihbpaeoljaaCvg
import Derived.Test.YtbpaihbpaeoljaaPthM
import Derived.Test.YtbpaihbpaeoljaaPth
import Derived.Test.YtbpaihbpaeoljaaPto
import Derived.Handy
import Derived.BigQuiet
import Derived.RegionTactic
import Derived.BigRegion
import Derived.Deep.QuietTactic
import Derived.StillTailTactics
namespace Go.Proofs.Ytbpaihbpaeoljaa
open Go.RowKit
set_option linter.unusedVariables false
attribute [local go_sem ↓] Go.wp_at_zero Go.wp_at_succ

/-- Behind k runs the bounds are these, and the rest leads to the whole's bounds. -/
def BndAt (zs : List Int) (k : Nat) (s : Int × Int × Int × Int) : Prop := bndF (zs.drop k) k s = bndF zs 0 (0, 1, 1, 0) ∧ BndOk (zs.drop k) k s
theorem BndAt.start {zs : List Int} (h : BndOk zs 0 (0, 1, 1, 0)) : BndAt zs 0 (0, 1, 1, 0) := ⟨rfl, h⟩
theorem BndAt.even {zs : List Int} {k : Nat} {p q r t z : Int} (h : BndAt zs k (p, q, r, t)) (hz : zs[k]? = some z) (hk : k % 2 = 0) : BndAt zs (k + 1) (p + z * r, q + z * t, r, t) := by
  obtain ⟨h1, h2⟩ := h
  rw [drop_at hz] at h1 h2
  rw [bndF, if_pos hk] at h1
  have h3 := h2.2.2
  rw [if_pos hk] at h3
  exact ⟨h1, h3⟩
theorem BndAt.odd {zs : List Int} {k : Nat} {p q r t z : Int} (h : BndAt zs k (p, q, r, t)) (hz : zs[k]? = some z) (hk : ¬ k % 2 = 0) : BndAt zs (k + 1) (p, q, r + z * p, t + z * q) := by
  obtain ⟨h1, h2⟩ := h
  rw [drop_at hz] at h1 h2
  rw [bndF, if_neg hk] at h1
  have h3 := h2.2.2
  rw [if_neg hk] at h3
  exact ⟨h1, h3⟩
theorem BndAt.term {zs : List Int} {k : Nat} {p q r t z : Int} (h : BndAt zs k (p, q, r, t)) (hz : zs[k]? = some z) : -1000000000 ≤ z ∧ z ≤ 1000000000 := by
  have h2 := h.2
  rw [drop_at hz] at h2
  exact h2.2.1
theorem BndAt.ins {zs : List Int} {k : Nat} {p q r t : Int} (h : BndAt zs k (p, q, r, t)) : (0 ≤ p ∧ p ≤ 1000000000) ∧ (0 ≤ q ∧ q ≤ 1000000000) ∧ (0 ≤ r ∧ r ≤ 1000000000) ∧ (0 ≤ t ∧ t ≤ 1000000000) := h.2.head
theorem BndAt.done {zs : List Int} {k : Nat} {s : Int × Int × Int × Int} (h : BndAt zs k s) (hk : zs.length ≤ k) : bndF zs 0 (0, 1, 1, 0) = s := by
  rw [← h.1, List.drop_of_length_le hk]; rfl

set_option maxHeartbeats 1600000 in
theorem bounds_any (A : Option Addr) (n cap : Nat) (zs : List Int) (w : World) (h : IRow w A n zs) (hok : BndOk zs 0 (0, 1, 1, 0)) :
    Calls Try.prog 77 #[.slice A n cap] w fun e w' => e = .returned (.tuple #[.int .i64 (bndF zs 0 (0, 1, 1, 0)).1, .int .i64 (bndF zs 0 (0, 1, 1, 0)).2.1, .int .i64 (bndF zs 0 (0, 1, 1, 0)).2.2.1, .int .i64 (bndF zs 0 (0, 1, 1, 0)).2.2.2]) ∧ w = w' := by
  have hbd := h.bd
  have Hl := Lib.hid h.len
  have hw := Lib.hid h; clear h
  have HK := Lib.hid hok; clear hok
  obtain ⟨F, hF⟩ : ∃ F, F = bndF zs 0 (0, 1, 1, 0) := ⟨_, rfl⟩
  rw [← hF]
  have HF := Lib.hid hF; clear hF
  go_enter Try.func77, Try.ntmps77
  go_wp2_with fail
  go_loop [6, 7, 8, 9, 14] (fun a b c d i => ∃ (k : Nat) (p q r t : Int), k ≤ n ∧ i = .int .i64 k ∧ a = .int .i64 p ∧ b = .int .i64 q ∧ c = .int .i64 r ∧ d = .int .i64 t ∧ Hid (BndAt zs k (p, q, r, t))) (fun _ _ _ _ i => n - (intOf i).toNat)
  case atStart => exact ⟨0, 0, 1, 1, 0, Nat.zero_le _, rfl, rfl, rfl, rfl, rfl, BndAt.start HK.out⟩
  case round =>
    obtain ⟨k, p, q, r, t, hk, rfl, rfl, rfl, rfl, rfl, HB⟩ := hrel
    obtain ⟨⟨p0, p1⟩, ⟨q0, q1⟩, ⟨r0, r1⟩, ⟨t0, t1⟩⟩ := HB.out.ins
    by_cases hlt : k < n
    · obtain ⟨ad, z, rfl, hz, z1, z2, hc⟩ := hw.out.at_ hlt
      obtain ⟨y1, y2⟩ := HB.out.term hz
      have HZ := Lib.hid hz; clear hz
      obtain ⟨m1, m2⟩ := mul_bd y1 y2 (show -1000000000 ≤ r by omega) r1
      obtain ⟨m3, m4⟩ := mul_bd y1 y2 (show -1000000000 ≤ t by omega) t1
      obtain ⟨m5, m6⟩ := mul_bd y1 y2 (show -1000000000 ≤ p by omega) p1
      obtain ⟨m7, m8⟩ := mul_bd y1 y2 (show -1000000000 ≤ q by omega) q1
      by_cases hp : k % 2 = 0
      · have hp1 : ((k : Int) % 2 == 0) = true := by rw [beq_iff_eq]; omega
        have hpn := Lib.hid hp
        clear hp
        go_wp2_with fail
        go_round
        case rel => exact ⟨k + 1, _, _, _, _, by omega, by go_num, rfl, rfl, rfl, rfl, HB.out.even HZ.out hpn.out⟩
        case measure => simp [intOf]; omega
      · have hp1 : ((k : Int) % 2 == 0) = false := by rw [beq_eq_false_iff_ne]; omega
        have hpn := Lib.hid hp
        clear hp
        go_wp2_with fail
        go_round
        case rel => exact ⟨k + 1, _, _, _, _, by omega, by go_num, rfl, rfl, rfl, rfl, HB.out.odd HZ.out hpn.out⟩
        case measure => simp [intOf]; omega
    · obtain rfl : n = k := by omega
      go_wp2_with fail
      have he := HF.out.trans (HB.out.done (by rw [Hl.out]; exact Nat.le_refl _))
      subst he
      exact bodyPost_ret (v := .tuple #[.int .i64 p, .int .i64 q, .int .i64 r, .int .i64 t]) (by simp [results, Try.results77, go_sem]) rfl ⟨rfl, rfl⟩
/-- The four bounds lie in the second of two new blocks; the first one holds zeros. -/
def BS (w wr : World) (p q r t : Int) : Prop :=
  (wr.cell? ⟨w.heap.size + 1, 0, none⟩ = some (.int .i64 p) ∧ wr.cell? ⟨w.heap.size + 1, 1, none⟩ = some (.int .i64 q) ∧ wr.cell? ⟨w.heap.size + 1, 2, none⟩ = some (.int .i64 r) ∧ wr.cell? ⟨w.heap.size + 1, 3, none⟩ = some (.int .i64 t)) ∧
  (∀ b j, (b = w.heap.size ∨ b = w.heap.size + 1) → j < 4 → wr.frozen? ⟨b, j, none⟩ = false) ∧ (∀ j, j < 4 → wr.cell? ⟨w.heap.size, j, none⟩ = some (.int .i64 0)) ∧ Below w.heap.size w wr
theorem BS.set {w wr : World} {p q r t : Int} (h : BS w wr p q r t) (i : Nat) (v : Int) (hi : i < 4) :
    BS w ((wr.setCell ⟨w.heap.size + 1, i, none⟩ (.int .i64 v)).drew) (if i = 0 then v else p) (if i = 1 then v else q) (if i = 2 then v else r) (if i = 3 then v else t) := by
  obtain ⟨⟨c0, c1, c2, c3⟩, hf, hz, hb⟩ := h
  refine ⟨?_, fun b j hb hj => ?_, fun j hj => ?_, (hb.setCell (p := ⟨w.heap.size + 1, i, none⟩) (by simp) _).drew⟩
  · show (wr.setCell ⟨w.heap.size + 1, i, none⟩ (.int .i64 v)).cell? ⟨w.heap.size + 1, 0, none⟩ = _ ∧ (wr.setCell ⟨w.heap.size + 1, i, none⟩ (.int .i64 v)).cell? ⟨w.heap.size + 1, 1, none⟩ = _ ∧ (wr.setCell ⟨w.heap.size + 1, i, none⟩ (.int .i64 v)).cell? ⟨w.heap.size + 1, 2, none⟩ = _ ∧ (wr.setCell ⟨w.heap.size + 1, i, none⟩ (.int .i64 v)).cell? ⟨w.heap.size + 1, 3, none⟩ = _
    rcases (by omega : i = 0 ∨ i = 1 ∨ i = 2 ∨ i = 3) with rfl | rfl | rfl | rfl
    · exact ⟨setS c0, setO (by simp) c1, setO (by simp) c2, setO (by simp) c3⟩
    · exact ⟨setO (by simp) c0, setS c1, setO (by simp) c2, setO (by simp) c3⟩
    · exact ⟨setO (by simp) c0, setO (by simp) c1, setS c2, setO (by simp) c3⟩
    · exact ⟨setO (by simp) c0, setO (by simp) c1, setO (by simp) c2, setS c3⟩
  · exact setF (hf b j hb hj)
  · exact setO (by simp) (hz j hj)

set_option maxRecDepth 100000 in
set_option maxHeartbeats 3200000 in
theorem l05Bounds_any (A : Option Addr) (n cap : Nat) (zs : List Int) (w : World) (h : IRow w A n zs) (hok : BndOk zs 0 (0, 1, 1, 0)) :
    Calls Try.prog 76 #[.slice A n cap] w fun e w' => e = .returned (.agg #[.int .i64 (bndF zs 0 (0, 1, 1, 0)).1, .int .i64 (bndF zs 0 (0, 1, 1, 0)).2.1, .int .i64 (bndF zs 0 (0, 1, 1, 0)).2.2.1, .int .i64 (bndF zs 0 (0, 1, 1, 0)).2.2.2]) ∧ Below w.heap.size w w' := by
  have hbd := h.bd
  have Hl := Lib.hid h.len
  have hw := Lib.hid h; clear h
  have HK := Lib.hid hok; clear hok
  obtain ⟨F, hF⟩ : ∃ F, F = bndF zs 0 (0, 1, 1, 0) := ⟨_, rfl⟩
  rw [← hF]
  have HF := Lib.hid hF; clear hF
  go_enter Try.func76, Try.ntmps76
  go_wp2_with fail
  go_loopw [4] (fun i wr => ∃ (k : Nat) (p q r t : Int), k ≤ n ∧ i = .int .i64 k ∧ Hid (BndAt zs k (p, q, r, t)) ∧ BS w wr p q r t) (fun i _ => n - (intOf i).toNat)
  case atStart =>
    refine ⟨0, 0, 1, 1, 0, Nat.zero_le _, rfl, BndAt.start HK.out, ⟨by simp, by simp, by simp, by simp⟩, fun b j hb hj => ?_, fun j hj => ?_, by go_grown⟩
    · rcases hb with rfl | rfl <;> simp
    · rcases (by omega : j = 0 ∨ j = 1 ∨ j = 2 ∨ j = 3) with rfl | rfl | rfl | rfl <;> simp
  case round =>
    obtain ⟨k, p, q, r, t, hk, rfl, HB, hS⟩ := hrel
    have HS := Lib.hid hS
    obtain ⟨⟨c0, c1, c2, c3⟩, hf, hz0, hbel⟩ := hS
    obtain ⟨⟨p0, p1⟩, ⟨q0, q1⟩, ⟨r0, r1⟩, ⟨t0, t1⟩⟩ := HB.out.ins
    have f0 := hf (w.heap.size + 1) 0 (.inr rfl) (by omega)
    have f1 := hf (w.heap.size + 1) 1 (.inr rfl) (by omega)
    have f2 := hf (w.heap.size + 1) 2 (.inr rfl) (by omega)
    have f3 := hf (w.heap.size + 1) 3 (.inr rfl) (by omega)
    by_cases hlt : k < n
    · obtain ⟨ad, z, rfl, hz, z1, z2, hc⟩ := (hw.out.below hbel).at_ hlt
      obtain ⟨y1, y2⟩ := HB.out.term hz
      have HZ := Lib.hid hz; clear hz
      obtain ⟨m1, m2⟩ := mul_bd y1 y2 (show -1000000000 ≤ r by omega) r1
      obtain ⟨m3, m4⟩ := mul_bd y1 y2 (show -1000000000 ≤ t by omega) t1
      obtain ⟨m5, m6⟩ := mul_bd y1 y2 (show -1000000000 ≤ p by omega) p1
      obtain ⟨m7, m8⟩ := mul_bd y1 y2 (show -1000000000 ≤ q by omega) q1
      have hk0 : (0 : Int) ≤ (k : Int) := by omega
      have hk1 : (k : Int) < (n : Int) := by omega
      clear hf hz0 hbel
      by_cases hp : k % 2 = 0
      · have hp1 : ((k : Int) % 2 == 0) = true := by (rw [beq_iff_eq]; omega)
        have hpn := Lib.hid hp
        clear hp
        go_wp2_with fail
        go_still_tail 11, (by kernel_rfl)
        change wpList _ _ _ _ _ wr.drew
        go_wp2_with fail
        have h1 : BS w (wr.setCell ⟨w.heap.size + 1, 0, none⟩ (.int .i64 (p + z * r))).drew (p + z * r) q r t := HS.out.set 0 (p + z * r) (by omega)
        generalize (wr.setCell ⟨w.heap.size + 1, 0, none⟩ (.int .i64 (p + z * r))).drew = w1 at h1 ⊢
        clear c0 c1 c2 c3 f0 f1 f2 f3 hc
        have H1 := Lib.hid h1
        obtain ⟨⟨c0, c1, c2, c3⟩, hf, _, hbel⟩ := h1
        have f0 := hf (w.heap.size + 1) 0 (.inr rfl) (by omega)
        have f1 := hf (w.heap.size + 1) 1 (.inr rfl) (by omega)
        have f2 := hf (w.heap.size + 1) 2 (.inr rfl) (by omega)
        have f3 := hf (w.heap.size + 1) 3 (.inr rfl) (by omega)
        have hc : w1.cell? (ad.add k) = some (.int .i64 z) := by
          obtain ⟨ad', z', e, hz', _, _, hc'⟩ := (hw.out.below hbel).at_ hlt
          injection e with e; subst e
          rw [HZ.out] at hz'; injection hz' with hz'; subst hz'; exact hc'
        clear hf hbel
        go_still_tail 11, (by kernel_rfl)
        change wpList _ _ _ _ _ w1.drew
        go_wp2_with fail
        have h2 := H1.out.set 1 (q + z * t) (by omega)
        go_roundw
        case rel => exact ⟨k + 1, _, _, _, _, by omega, by go_num, HB.out.even HZ.out hpn.out, h2⟩
        case measure => simp [intOf]; omega
      · have hp1 : ((k : Int) % 2 == 0) = false := by (rw [beq_eq_false_iff_ne]; omega)
        have hpn := Lib.hid hp
        clear hp
        go_wp2_with fail
        go_still_tail 11, (by kernel_rfl)
        change wpList _ _ _ _ _ wr.drew
        go_wp2_with fail
        have h1 : BS w (wr.setCell ⟨w.heap.size + 1, 2, none⟩ (.int .i64 (r + z * p))).drew p q (r + z * p) t := HS.out.set 2 (r + z * p) (by omega)
        generalize (wr.setCell ⟨w.heap.size + 1, 2, none⟩ (.int .i64 (r + z * p))).drew = w1 at h1 ⊢
        clear c0 c1 c2 c3 f0 f1 f2 f3 hc
        have H1 := Lib.hid h1
        obtain ⟨⟨c0, c1, c2, c3⟩, hf, _, hbel⟩ := h1
        have f0 := hf (w.heap.size + 1) 0 (.inr rfl) (by omega)
        have f1 := hf (w.heap.size + 1) 1 (.inr rfl) (by omega)
        have f2 := hf (w.heap.size + 1) 2 (.inr rfl) (by omega)
        have f3 := hf (w.heap.size + 1) 3 (.inr rfl) (by omega)
        have hc : w1.cell? (ad.add k) = some (.int .i64 z) := by
          obtain ⟨ad', z', e, hz', _, _, hc'⟩ := (hw.out.below hbel).at_ hlt
          injection e with e; subst e
          rw [HZ.out] at hz'; injection hz' with hz'; subst hz'; exact hc'
        clear hf hbel
        go_still_tail 11, (by kernel_rfl)
        change wpList _ _ _ _ _ w1.drew
        go_wp2_with fail
        have h2 := H1.out.set 3 (t + z * q) (by omega)
        go_roundw
        case rel => exact ⟨k + 1, _, _, _, _, by omega, by go_num, HB.out.odd HZ.out hpn.out, h2⟩
        case measure => simp [intOf]; omega
    · obtain rfl : n = k := by omega
      have g0 := hz0 0 (by omega)
      have g1 := hz0 1 (by omega)
      have g2 := hz0 2 (by omega)
      have g3 := hz0 3 (by omega)
      have e0 := hf w.heap.size 0 (.inl rfl) (by omega)
      have e1 := hf w.heap.size 1 (.inl rfl) (by omega)
      have e2 := hf w.heap.size 2 (.inl rfl) (by omega)
      have e3 := hf w.heap.size 3 (.inl rfl) (by omega)
      clear hf hz0
      go_wp2_with fail
      have he := HF.out.trans (HB.out.done (by rw [Hl.out]; exact Nat.le_refl _))
      subst he
      have s0 := setS (v := .int .i64 p) g0
      have s1 := setS (v := .int .i64 q) (setO (a := ⟨w.heap.size, 0, none⟩) (v := .int .i64 p) (by simp) g1)
      have s2 := setS (v := .int .i64 r) (setO (a := ⟨w.heap.size, 1, none⟩) (v := .int .i64 q) (by simp) (setO (a := ⟨w.heap.size, 0, none⟩) (v := .int .i64 p) (by simp) g2))
      have s3 := setS (v := .int .i64 t) (setO (a := ⟨w.heap.size, 2, none⟩) (v := .int .i64 r) (by simp) (setO (a := ⟨w.heap.size, 1, none⟩) (v := .int .i64 q) (by simp) (setO (a := ⟨w.heap.size, 0, none⟩) (v := .int .i64 p) (by simp) g3)))
      exact bodyPost_ret (v := .agg #[.int .i64 p, .int .i64 q, .int .i64 r, .int .i64 t]) (by simp [results, Try.results76, go_sem, s0, s1, s2, s3]) rfl ⟨rfl, (((hbel.setCell (p := ⟨w.heap.size, 0, none⟩) (Nat.le_refl _) _).setCell (p := ⟨w.heap.size, 1, none⟩) (Nat.le_refl _) _).setCell (p := ⟨w.heap.size, 2, none⟩) (Nat.le_refl _) _).setCell (p := ⟨w.heap.size, 3, none⟩) (Nat.le_refl _) _⟩

/-- The bounds of a fraction, and the code. -/
def bdsT (p q : Int) : Int × Int × Int × Int := if posC p q = 0 then bndP p q.toNat else (0, 0, 0, 0)
set_option maxHeartbeats 800000 in
theorem implBds_any (p q : Int) (hp : Rng p) (hq : Rng q) (w : World) : Calls Try.prog 38 #[.agg #[.int .i64 p, .int .i64 q]] w fun e w' =>
    e = .returned (.tuple #[.int .i64 (bdsT p q).1, .int .i64 (bdsT p q).2.1, .int .i64 (bdsT p q).2.2.1, .int .i64 (bdsT p q).2.2.2, .int .i64 (posC p q)]) ∧ Below w.heap.size w w' := by
  by_cases h0 : posC p q = 0
  · obtain ⟨hv, hpos⟩ := pos_ok h0
    obtain ⟨v1, v2, v3, v4, _⟩ := vfB_iff.1 hv
    obtain ⟨d, rfl⟩ := Int.eq_ofNat_of_zero_le (show 0 ≤ q by omega)
    rw [show bdsT p d = bndP p d from by unfold bdsT; rw [if_pos h0, Int.toNat_natCast], h0]
    obtain ⟨hok, _⟩ := bnd_path hv hpos
    have hlen : (pthL p d).length ≤ 1000000000 := by have := pthL_len p d; omega
    have HR := Lib.hid (pthL_rng v3 v4 (show d ≤ 1000000000 by omega))
    unfold bndP
    obtain ⟨zs, hzs⟩ : ∃ zs, zs = pthL p d := ⟨_, rfl⟩
    have HP := Lib.hid (fun w => pathTo_any p d w v3 v4 (by omega) (by omega))
    rw [← hzs] at HP hok hlen HR ⊢
    have HK := Lib.hid hok
    obtain ⟨F, hF⟩ : ∃ F, F = bndF zs 0 (0, 1, 1, 0) := ⟨_, rfl⟩
    have HB := Lib.hid (fun A n cap w h => bounds_any A n cap zs w h HK.out)
    rw [← hF] at HB ⊢
    obtain ⟨a, b, c, e⟩ := F
    clear hF hok hzs
    go_enter Try.func38, Try.ntmps38
    go_wp2_with fail
    refine (chk_any p d (w.heap.size + 1) 1 _ (by simp) (by simp) hp hq).mono ?_
    rintro e w1 ⟨rfl, hb1⟩
    obtain ⟨hc1, hf1, hs1⟩ := keepc hb1
    have hB1 : Below w.heap.size w w1 := Below.trans (by go_grown) (hb1.mono (by first | exact Nat.le_refl _ | (simp only [World.size_alloc]; omega)))
    try simp only [World.size_alloc] at hs1
    have hl1_0 : w.heap.size < w1.heap.size := by omega
    rw [h0]
    go_wp2_with fail
    refine (HP.out _).mono ?_
    rintro e w2 ⟨⟨A2, c2, rfl, ho2⟩, hb2⟩
    obtain ⟨hc2, hf2, hs2⟩ := keepc hb2
    have hB2 : Below w.heap.size w w2 := hB1.trans (hb2.mono (by have := hB1.size; omega))
    have hl2_0 : w.heap.size < w2.heap.size := by omega
    have hw := IRow.of_own ho2 (by omega) (fun z hz => by have := HR.out z hz; unfold Rng; omega)
    clear ho2
    go_wp2_with fail
    refine (HB.out A2 _ c2 _ hw).mono ?_
    rintro e w' ⟨rfl, rfl⟩
    go_wp2_with fail
    skip
    exact bodyPost_ret (v := .tuple #[.int .i64 a, .int .i64 b, .int .i64 c, .int .i64 e, .int .i64 0]) (by simp [results, Try.results38, go_sem]) rfl ⟨rfl, hB2⟩
  · rw [show bdsT p q = (0, 0, 0, 0) from if_neg h0]
    have HC := Lib.hid (fun w b cap c0 c1 => chk_any p q b cap w c0 c1 hp hq)
    have hne : (posC p q != 0) = true := by rw [bne_iff_ne]; exact h0
    generalize posC p q = k at *
    clear h0
    go_enter Try.func38, Try.ntmps38
    go_wp2_with fail
    refine (HC.out _ (w.heap.size + 1) 1 (by simp) (by simp)).mono ?_
    rintro e w1 ⟨rfl, hb1⟩
    obtain ⟨hc1, hf1, hs1⟩ := keepc hb1
    have hB1 : Below w.heap.size w w1 := Below.trans (by go_grown) (hb1.mono (by first | exact Nat.le_refl _ | (simp only [World.size_alloc]; omega)))
    try simp only [World.size_alloc] at hs1
    have hl1_0 : w.heap.size < w1.heap.size := by omega
    go_wp2_with fail
    exact bodyPost_ret (v := .tuple #[.int .i64 0, .int .i64 0, .int .i64 0, .int .i64 0, .int .i64 k]) (by simp [results, Try.results38, go_sem]) rfl ⟨rfl, hB1⟩
set_option maxHeartbeats 800000 in
theorem specBds_any (p q : Int) (hp : Rng p) (hq : Rng q) (w : World) : Calls Try.prog 37 #[.agg #[.int .i64 p, .int .i64 q]] w fun e w' =>
    e = .returned (.tuple #[.int .i64 (bdsT p q).1, .int .i64 (bdsT p q).2.1, .int .i64 (bdsT p q).2.2.1, .int .i64 (bdsT p q).2.2.2, .int .i64 (posC p q)]) ∧ Below w.heap.size w w' := by
  by_cases h0 : posC p q = 0
  · obtain ⟨hv, hpos⟩ := pos_ok h0
    obtain ⟨v1, v2, v3, v4, _⟩ := vfB_iff.1 hv
    obtain ⟨d, rfl⟩ := Int.eq_ofNat_of_zero_le (show 0 ≤ q by omega)
    rw [show bdsT p d = bndP p d from by unfold bdsT; rw [if_pos h0, Int.toNat_natCast], h0]
    obtain ⟨hok, _⟩ := bnd_path hv hpos
    have hlen : (pthL p d).length ≤ 1000000000 := by have := pthL_len p d; omega
    have HR := Lib.hid (pthL_rng v3 v4 (show d ≤ 1000000000 by omega))
    unfold bndP
    obtain ⟨zs, hzs⟩ : ∃ zs, zs = pthL p d := ⟨_, rfl⟩
    have HP := Lib.hid (fun w => l05Path_any p d w v3 v4 (by omega) (by omega))
    rw [← hzs] at HP hok hlen HR ⊢
    have HK := Lib.hid hok
    obtain ⟨F, hF⟩ : ∃ F, F = bndF zs 0 (0, 1, 1, 0) := ⟨_, rfl⟩
    have HB := Lib.hid (fun A n cap w h => l05Bounds_any A n cap zs w h HK.out)
    rw [← hF] at HB ⊢
    obtain ⟨a, b, c, e⟩ := F
    clear hF hok hzs
    go_enter Try.func37, Try.ntmps37
    go_wp2_with fail
    refine (l05Code_any p d _).mono ?_
    rintro e w1 ⟨rfl, hb1⟩
    obtain ⟨hc1, hf1, hs1⟩ := keepc hb1
    have hB1 : Below w.heap.size w w1 := Below.trans (by go_grown) (hb1.mono (by first | exact Nat.le_refl _ | (simp only [World.size_alloc]; omega)))
    try simp only [World.size_alloc] at hs1
    have hl1_0 : w.heap.size < w1.heap.size := by omega
    rw [h0]
    go_wp2_with fail
    refine (HP.out _).mono ?_
    rintro e w2 ⟨⟨A2, c2, rfl, ho2⟩, hb2⟩
    obtain ⟨hc2, hf2, hs2⟩ := keepc hb2
    have hB2 : Below w.heap.size w w2 := hB1.trans (hb2.mono (by have := hB1.size; omega))
    have hl2_0 : w.heap.size < w2.heap.size := by omega
    have hw := IRow.of_own ho2 (by omega) (fun z hz => by have := HR.out z hz; unfold Rng; omega)
    clear ho2
    go_wp2_with fail
    refine (HB.out A2 _ c2 _ hw).mono ?_
    rintro e w3 ⟨rfl, hb3⟩
    obtain ⟨hc3, hf3, hs3⟩ := keepc hb3
    have hB3 : Below w.heap.size w w3 := hB2.trans (hb3.mono (by have := hB2.size; omega))
    have hl3_0 : w.heap.size < w3.heap.size := by omega
    go_wp2_with fail
    go_quiet (fail)
    go_wp2_with fail
    skip
    exact bodyPost_ret (v := .tuple #[.int .i64 a, .int .i64 b, .int .i64 c, .int .i64 e, .int .i64 0]) (by simp [results, Try.results37, go_sem]) rfl ⟨rfl, (hB3.alloc (by omega) _).trans (below_drewN _ _ _)⟩
  · rw [show bdsT p q = (0, 0, 0, 0) from if_neg h0]
    have HC := Lib.hid (fun w => l05Code_any p q w)
    have hne : (posC p q != 0) = true := by rw [bne_iff_ne]; exact h0
    generalize posC p q = k at *
    clear h0
    go_enter Try.func37, Try.ntmps37
    go_wp2_with fail
    refine (HC.out _).mono ?_
    rintro e w1 ⟨rfl, hb1⟩
    obtain ⟨hc1, hf1, hs1⟩ := keepc hb1
    have hB1 : Below w.heap.size w w1 := Below.trans (by go_grown) (hb1.mono (by first | exact Nat.le_refl _ | (simp only [World.size_alloc]; omega)))
    try simp only [World.size_alloc] at hs1
    have hl1_0 : w.heap.size < w1.heap.size := by omega
    go_wp2_with fail
    exact bodyPost_ret (v := .tuple #[.int .i64 0, .int .i64 0, .int .i64 0, .int .i64 0, .int .i64 k]) (by simp [results, Try.results37, go_sem]) rfl ⟨rfl, hB1⟩
theorem fnExactBoundsOf_walk (p q : Int) (_ : -9223372036854775808 ≤ p) (_ : p ≤ 9223372036854775807) (_ : -9223372036854775808 ≤ q) (_ : q ≤ 9223372036854775807) (w : World) :
    Calls Try.prog 10 #[.agg #[.int .i64 p, .int .i64 q]] w fun e w' => e = .returned (.bool true) ∧ Below w.heap.size w w' := by
  go_enter Try.func10, Try.ntmps10
  go_wp2_with fail
  refine (toFraction_any p q _).mono ?_
  rintro e w1 ⟨rfl, hb1⟩
  obtain ⟨hc1, hf1, hs1⟩ := keepc hb1
  have hB1 : Below w.heap.size w w1 := Below.trans (by go_grown) (hb1.mono (by first | exact Nat.le_refl _ | (simp only [World.size_alloc]; omega)))
  try simp only [World.size_alloc] at hs1
  have hl1_0 : w.heap.size < w1.heap.size := by omega
  go_wp2_with fail
  refine (specBds_any p q ⟨by assumption, by assumption⟩ ⟨by assumption, by assumption⟩ _).mono ?_
  rintro e w2 ⟨rfl, hb2⟩
  obtain ⟨hc2, hf2, hs2⟩ := keepc hb2
  have hB2 : Below w.heap.size w w2 := hB1.trans (hb2.mono (by have := hB1.size; omega))
  have hl2_0 : w.heap.size < w2.heap.size := by omega
  go_wp2_with fail
  refine (toFraction_any p q _).mono ?_
  rintro e w3 ⟨rfl, hb3⟩
  obtain ⟨hc3, hf3, hs3⟩ := keepc hb3
  have hB3 : Below w.heap.size w w3 := hB2.trans (hb3.mono (by have := hB2.size; omega))
  have hl3_0 : w.heap.size < w3.heap.size := by omega
  go_wp2_with fail
  refine (implBds_any p q ⟨by assumption, by assumption⟩ ⟨by assumption, by assumption⟩ _).mono ?_
  rintro e w4 ⟨rfl, hb4⟩
  obtain ⟨hc4, hf4, hs4⟩ := keepc hb4
  have hB4 : Below w.heap.size w w4 := hB3.trans (hb4.mono (by have := hB3.size; omega))
  have hl4_0 : w.heap.size < w4.heap.size := by omega
  go_wp2_with fail
  go_ret
  exact ⟨rfl, hB4⟩
end Go.Proofs.Ytbpaihbpaeoljaa
