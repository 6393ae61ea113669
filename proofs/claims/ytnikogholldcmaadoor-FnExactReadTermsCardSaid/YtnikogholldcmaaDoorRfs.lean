/-
  Fractions read from texts in the reference: contract; the walk of the law FnExactReadFraction.
  The table of the powers of ten and the two errors of strconv hold what their initialisers lay; MaxLen holds a number.
-/
import Derived.Test.YtnikogholldcmaaDoorProg
import Derived.Test.YtnikogholldcmaaDoorMem
import Derived.Test.YtnikogholldcmaaDoorBasic
import Derived.Test.YtnikogholldcmaaDoorSig
import Derived.Test.YtnikogholldcmaaDoorFrac
import Derived.Test.YtnikogholldcmaaDoorFrac3
import Derived.Test.YtnikogholldcmaaDoorOwn
import Derived.Test.YtnikogholldcmaaDoorNumM
import Derived.Test.YtnikogholldcmaaDoorDec
import Derived.Test.YtnikogholldcmaaDoorRdd
import Derived.Test.YtnikogholldcmaaDoorRds
import Derived.Test.YtnikogholldcmaaDoorSpl
import Derived.Test.YtnikogholldcmaaDoorRfrM
import Derived.Test.YtnikogholldcmaaDoorRfr
import Derived.Handy
import Derived.BigQuiet
import Derived.Deep.QuietTactic
namespace Go.Proofs.YtnikogholldcmaaDoor
open Go.RowKit
set_option linter.unusedVariables false
set_option linter.unusedSimpArgs false
attribute [local go_sem ↓] Go.wp_at_zero Go.wp_at_succ

theorem splL_le (c : UInt8) : ∀ (l : List UInt8), ∀ p ∈ splL c l, p.length ≤ l.length
  | [], p, h => by simp [splL] at h; subst h; simp
  | b :: r, p, h => by
    have ih := splL_le c r
    by_cases hb : b = c
    · subst hb
      rw [splL_eq] at h
      rcases List.mem_cons.1 h with h | h
      · subst h; simp
      · have := ih p h; rw [List.length_cons]; omega
    · rw [splL_cons hb] at h
      match hs : splL c r with
      | [] => exact absurd hs (splL_ne c r)
      | a :: t =>
        rw [hs] at h
        rcases List.mem_cons.1 h with h | h
        · subst h
          have := ih a (by rw [hs]; simp)
          simp; omega
        · have := ih p (by rw [hs]; simp [h]); rw [List.length_cons]; omega
theorem Bx.set {w W : World} {x y : Int} (h : Bx w W x y) {b : Nat} (hb : w.heap.size < b) (o : Nat) (v : Value) : Bx w (W.setCell ⟨b, o, none⟩ v) x y := by
  obtain ⟨h1, h2, f1, f2, h3, h4⟩ := h
  have e : ∀ j, (⟨b, o, none⟩ : Addr) ≠ ⟨w.heap.size, j, none⟩ := fun j e => by injection e with e; omega
  exact ⟨setO (e 0) h1, setO (e 1) h2, setF f1, setF f2, h3.setCell (p := ⟨b, o, none⟩) (by show w.heap.size ≤ b; omega) _, by simpa using h4⟩
theorem pair_set2 {W : World} {g : Nat} {x y : Value} (h0 : W.cell? ⟨g, 0, none⟩ = some x) (h1 : W.cell? ⟨g, 1, none⟩ = some y) (v : Value) : (W.setCell ⟨g, 1, none⟩ v).cell? ⟨g, 0, none⟩ = some x ∧ (W.setCell ⟨g, 1, none⟩ v).cell? ⟨g, 1, none⟩ = some v :=
  ⟨setO (fun e => by injection e with e1 e2; omega) h0, setS h1⟩
theorem rdT_data {t : ByteArray} {a : List UInt8} (h : t.data.toList = a) : rdT t = if rdB a = true then (valI a, true) else (0, false) := by unfold rdT; rw [h]
set_option maxRecDepth 100000 in
set_option maxHeartbeats 3200000 in
theorem specRfr_any (s : ByteArray) (w : World) (hs : s.size ≤ 1048576) :
    Calls Tryd.prog 38 #[.string s] w fun e w' => e = .returned (.tuple #[.agg #[.int .i64 (rfT s).1, .int .i64 (rfT s).2.1], .bool (rfT s).2.2]) ∧ Below w.heap.size w w' := by
  have S0 := Lib.hid (Bx.start w 0 0 33)
  have HSp := Lib.hid (l01Split_any s 47 (w.alloc (.cells #[.int .i64 0, .int .i64 0] 33)) hs)
  have hls := splL_le 47 s.data.toList
  rw [len_size] at hls
  have hO : rfO s = rfP (splL 47 s.data.toList) := rfl
  have hne := splL_ne 47 s.data.toList
  generalize splL 47 s.data.toList = ls at *
  have HO := Lib.hid hO
  have HLs := Lib.hid hls
  clear hO hls
  match ls, hne with
  | [a], _ =>
    have hra : ∃ x ok, (∀ t : ByteArray, t.data.toList = a → rdT t = (x, ok)) ∧ -1000000000000000000 ≤ x ∧ x ≤ 1000000000000000000 ∧ (ok = false → rfT s = (0, 0, false)) ∧ (ok = true → rfT s = if vfB x 1 = true then (x, 1, true) else (0, 0, false)) := by
      cases h : rdB a
      · exact ⟨0, false, fun t ht => by rw [rdT_data ht, h]; rfl, by omega, by omega, fun _ => rfT_none (by rw [HO.out]; show (if _ then _ else _) = _; rw [if_neg (by rw [h]; simp)]), (fun e => by cases e)⟩
      · refine ⟨valI a, true, fun t ht => by rw [rdT_data ht, h]; rfl, ?_, ?_, (fun e => by cases e), fun _ => ?_⟩
        · have := (rdB_form h).2.2.2.2; omega
        · have := (rdB_form h).2.2.2.2; omega
        · by_cases hv : vfB (valI a) 1 = true
          · rw [if_pos hv]
            exact rfT_some (by rw [HO.out]; show (if _ then _ else _) = _; rw [if_pos ⟨h, hv⟩])
          · rw [if_neg hv]
            exact rfT_none (by rw [HO.out]; show (if _ then _ else _) = _; rw [if_neg (fun k => hv k.2)])
    obtain ⟨x, ok, hrd, x1, x2, hf, ht⟩ := hra
    have HRd := Lib.hid hrd
    have hal := HLs.out a (by simp)
    have HT := Lib.hid ht
    have HF := Lib.hid hf
    clear hrd ht hf
    cases ok
    · rw [HF.out rfl]
      go_enter Tryd.func38, Tryd.ntmps38
      go_wp2_with fail
      refine HSp.out.mono ?_
      rintro e w1 ⟨⟨A, c, ts, rfl, ho, hts⟩, hb1⟩
      obtain ⟨g, rfl, hg1, hg2⟩ := own_some ho (by simp)
      obtain ⟨ta, rfl⟩ : ∃ ta, ts = [ta] := by
        match ts, hts with
        | [ta], _ => exact ⟨ta, rfl⟩
      have hda : ta.data.toList = a := by simpa using hts
      have hc0 := own_cellT ho (k := 0) (t := ta) rfl
      have HN := Lib.hid (fun W => l01Number_any ta W (by rw [← len_size, hda]; omega))
      rw [HRd.out ta hda] at HN
      have S1 := Lib.hid (S0.out.keep hb1)
      clear hb1 ho hts hda
      go_wp2_with fail
      refine (HN.out w1).mono ?_
      rintro e w2 ⟨rfl, hb2⟩
      have S2 := Lib.hid (S1.out.keep hb2)
      obtain ⟨c0, c1, f0, f1, _, hl2⟩ := S2.out
      clear hb2 hc0
      go_wp2_with fail
      (exact bodyPost_ret (v := .tuple #[.agg #[.int .i64 0, .int .i64 0], .bool false]) (by simp [results, Tryd.results38, go_sem, (S2.out.res _ _ _).1, (S2.out.res _ _ _).2]) rfl ⟨rfl, (S2.out.out2 _ _).alloc (S2.out.out2 _ _).size _⟩)
    · rw [HT.out rfl]
      have HV := Lib.hid (fun W => l02Ok_any x 1 W)
      cases hv : vfB x 1
      · rw [hv] at HV
        rw [if_neg (by simp)]
        clear hv
        go_enter Tryd.func38, Tryd.ntmps38
        go_wp2_with fail
        refine HSp.out.mono ?_
        rintro e w1 ⟨⟨A, c, ts, rfl, ho, hts⟩, hb1⟩
        obtain ⟨g, rfl, hg1, hg2⟩ := own_some ho (by simp)
        obtain ⟨ta, rfl⟩ : ∃ ta, ts = [ta] := by
          match ts, hts with
          | [ta], _ => exact ⟨ta, rfl⟩
        have hda : ta.data.toList = a := by simpa using hts
        have hc0 := own_cellT ho (k := 0) (t := ta) rfl
        have HN := Lib.hid (fun W => l01Number_any ta W (by rw [← len_size, hda]; omega))
        rw [HRd.out ta hda] at HN
        have S1 := Lib.hid (S0.out.keep hb1)
        clear hb1 ho hts hda
        go_wp2_with fail
        refine (HN.out w1).mono ?_
        rintro e w2 ⟨rfl, hb2⟩
        have S2 := Lib.hid (S1.out.keep hb2)
        obtain ⟨c0, c1, f0, f1, _, hl2⟩ := S2.out
        clear hb2 hc0
        go_wp2_with fail
        refine (HV.out _).mono ?_
        rintro e w3 ⟨rfl, hb3⟩
        have S3 := Lib.hid ((S2.out.keep ((Below.refl _ _).alloc (Nat.le_refl _) _)).keep hb3)
        have k0 : w3.cell? ⟨w2.heap.size, 0, none⟩ = some (.int .i64 x) := (hb3.cell (p := ⟨w2.heap.size, 0, none⟩) (by simp)).trans (newcellA rfl rfl)
        have k1 : w3.cell? ⟨w2.heap.size, 1, none⟩ = some (.int .i64 1) := (hb3.cell (p := ⟨w2.heap.size, 1, none⟩) (by simp)).trans (newcellA rfl rfl)
        clear hb3 c0 c1 f0 f1 hl2
        obtain ⟨d0, d1, f0, f1, _, hl3⟩ := S3.out
        go_wp2_with fail
        exact bodyPost_ret (v := .tuple #[.agg #[.int .i64 0, .int .i64 0], .bool false]) (by simp [results, Tryd.results38, go_sem, pair_set d0 d1]) rfl ⟨rfl, S3.out.out2 _ _⟩
      · rw [hv] at HV
        rw [if_pos rfl]
        clear hv
        go_enter Tryd.func38, Tryd.ntmps38
        go_wp2_with fail
        refine HSp.out.mono ?_
        rintro e w1 ⟨⟨A, c, ts, rfl, ho, hts⟩, hb1⟩
        obtain ⟨g, rfl, hg1, hg2⟩ := own_some ho (by simp)
        obtain ⟨ta, rfl⟩ : ∃ ta, ts = [ta] := by
          match ts, hts with
          | [ta], _ => exact ⟨ta, rfl⟩
        have hda : ta.data.toList = a := by simpa using hts
        have hc0 := own_cellT ho (k := 0) (t := ta) rfl
        have HN := Lib.hid (fun W => l01Number_any ta W (by rw [← len_size, hda]; omega))
        rw [HRd.out ta hda] at HN
        have S1 := Lib.hid (S0.out.keep hb1)
        clear hb1 ho hts hda
        go_wp2_with fail
        refine (HN.out w1).mono ?_
        rintro e w2 ⟨rfl, hb2⟩
        have S2 := Lib.hid (S1.out.keep hb2)
        obtain ⟨c0, c1, f0, f1, _, hl2⟩ := S2.out
        clear hb2 hc0
        go_wp2_with fail
        refine (HV.out _).mono ?_
        rintro e w3 ⟨rfl, hb3⟩
        have S3 := Lib.hid ((S2.out.keep ((Below.refl _ _).alloc (Nat.le_refl _) _)).keep hb3)
        have k0 : w3.cell? ⟨w2.heap.size, 0, none⟩ = some (.int .i64 x) := (hb3.cell (p := ⟨w2.heap.size, 0, none⟩) (by simp)).trans (newcellA rfl rfl)
        have k1 : w3.cell? ⟨w2.heap.size, 1, none⟩ = some (.int .i64 1) := (hb3.cell (p := ⟨w2.heap.size, 1, none⟩) (by simp)).trans (newcellA rfl rfl)
        clear hb3 c0 c1 f0 f1 hl2
        obtain ⟨d0, d1, f0, f1, _, hl3⟩ := S3.out
        go_wp2_with fail
        exact bodyPost_ret (v := .tuple #[.agg #[.int .i64 x, .int .i64 1], .bool true]) (by simp [results, Tryd.results38, go_sem, pair_set d0 d1]) rfl ⟨rfl, S3.out.out2 _ _⟩
  | [a, b], _ =>
    have hra : ∃ x y ok ok2, (∀ t : ByteArray, t.data.toList = a → rdT t = (x, ok)) ∧ (∀ t : ByteArray, t.data.toList = b → rdT t = (y, ok2)) ∧ -1000000000000000000 ≤ x ∧ x ≤ 1000000000000000000 ∧ -1000000000000000000 ≤ y ∧ y ≤ 1000000000000000000 ∧
        (ok = false ∨ ok2 = false ∨ y = 1 → rfT s = (0, 0, false)) ∧ (ok = true → ok2 = true → y ≠ 1 → rfT s = if vfB x y = true then (x, y, true) else (0, 0, false)) := by
      have key : ∀ l : List UInt8, ∃ x ok, (∀ t : ByteArray, t.data.toList = l → rdT t = (x, ok)) ∧ -1000000000000000000 ≤ x ∧ x ≤ 1000000000000000000 ∧ rdB l = ok ∧ (ok = true → x = valI l) := fun l => by
        cases h : rdB l
        · exact ⟨0, false, fun t ht => by rw [rdT_data ht, h]; rfl, by omega, by omega, rfl, (fun e => by cases e)⟩
        · refine ⟨valI l, true, fun t ht => by rw [rdT_data ht, h]; rfl, ?_, ?_, rfl, fun _ => rfl⟩
          · have := (rdB_form h).2.2.2.2; omega
          · have := (rdB_form h).2.2.2.2; omega
      obtain ⟨x, ok, k1, k2, k3, k4, k5⟩ := key a
      obtain ⟨y, ok2, j1, j2, j3, j4, j5⟩ := key b
      have e : rfO s = if rdB a = true ∧ rdB b = true ∧ valI b ≠ 1 ∧ vfB (valI a) (valI b) = true then some (valI a, valI b) else none := HO.out
      rw [k4, j4] at e
      refine ⟨x, y, ok, ok2, k1, j1, k2, k3, j2, j3, fun h => rfT_none ?_, fun h1 h2 h3 => ?_⟩
      · rw [e, if_neg]
        rintro ⟨q1, q2, q3, _⟩
        rcases h with h | h | h
        · rw [h] at q1; cases q1
        · rw [h] at q2; cases q2
        · exact q3 (by rw [← j5 q2]; exact h)
      · rw [k5 h1, j5 h2]
        rw [j5 h2] at h3
        by_cases hv : vfB (valI a) (valI b) = true
        · rw [if_pos hv]; exact rfT_some (by rw [e, if_pos ⟨h1, h2, h3, hv⟩])
        · rw [if_neg hv]; exact rfT_none (by rw [e, if_neg (fun k => hv k.2.2.2)])
    obtain ⟨x, y, ok, ok2, hrd, hrd2, x1, x2, y1, y2, hf, ht⟩ := hra
    have HRd := Lib.hid hrd
    have HRd2 := Lib.hid hrd2
    have hal := HLs.out a (by simp)
    have hbl := HLs.out b (by simp)
    have HT := Lib.hid ht
    have HF := Lib.hid hf
    clear hrd ht hf hrd2
    have hcases : (ok = false) ∨ (ok = true ∧ ok2 = false) ∨ (ok = true ∧ ok2 = true ∧ y = 1) ∨ (ok = true ∧ ok2 = true ∧ y ≠ 1) := by
      cases ok
      · exact .inl rfl
      · cases ok2
        · exact .inr (.inl ⟨rfl, rfl⟩)
        · by_cases hy : y = 1
          · exact .inr (.inr (.inl ⟨rfl, rfl, hy⟩))
          · exact .inr (.inr (.inr ⟨rfl, rfl, hy⟩))
    rcases hcases with h | ⟨h, h'⟩ | ⟨h, h', h''⟩ | ⟨h, h', h''⟩
    · subst h
      rw [HF.out (.inl rfl)]
      go_enter Tryd.func38, Tryd.ntmps38
      go_wp2_with fail
      refine HSp.out.mono ?_
      rintro e w1 ⟨⟨A, c, ts, rfl, ho, hts⟩, hb1⟩
      obtain ⟨g, rfl, hg1, hg2⟩ := own_some ho (by simp)
      obtain ⟨ta, tb, rfl⟩ : ∃ ta tb, ts = [ta, tb] := by
        match ts, hts with
        | [ta, tb], _ => exact ⟨ta, tb, rfl⟩
      have hda : ta.data.toList = a := by simp at hts; exact hts.1
      have hdb : tb.data.toList = b := by simp at hts; exact hts.2
      have hc0 := own_cellT ho (k := 0) (t := ta) rfl
      have hc1 := own_cellT ho (k := 1) (t := tb) rfl
      have HN := Lib.hid (fun W => l01Number_any ta W (by rw [← len_size, hda]; omega))
      rw [HRd.out ta hda] at HN
      have HN2 := Lib.hid (fun W => l01Number_any tb W (by rw [← len_size, hdb]; omega))
      rw [HRd2.out tb hdb] at HN2
      have S1 := Lib.hid (S0.out.keep hb1)
      have hgw : g < w1.heap.size := hg2
      have HC1 := Lib.hid hc1
      clear hb1 ho hts hda hdb hc1
      go_wp2_with fail
      refine (HN.out w1).mono ?_
      rintro e w2 ⟨rfl, hb2⟩
      have S2 := Lib.hid (S1.out.keep hb2)
      have hc1 : w2.cell? ⟨g, 1, none⟩ = some (.string tb) := (hb2.cell (p := ⟨g, 1, none⟩) hgw).trans HC1.out
      have hgw2 : g < w2.heap.size := Nat.lt_of_lt_of_le hgw hb2.size
      clear hb2 hc0
      go_wp2_with fail
      refine (HN2.out _).mono ?_
      rintro e w3 ⟨rfl, hb3⟩
      have S3 := Lib.hid ((S2.out.keep ((Below.refl _ _).alloc (Nat.le_refl _) _)).keep hb3)
      have k0 : w3.cell? ⟨w2.heap.size, 0, none⟩ = some (.int .i64 x) := (hb3.cell (p := ⟨w2.heap.size, 0, none⟩) (by simp)).trans (newcellA rfl rfl)
      have k1 : w3.cell? ⟨w2.heap.size, 1, none⟩ = some (.int .i64 1) := (hb3.cell (p := ⟨w2.heap.size, 1, none⟩) (by simp)).trans (newcellA rfl rfl)
      have kf : w3.frozen? ⟨w2.heap.size, 1, none⟩ = false := (hb3.frozen (p := ⟨w2.heap.size, 1, none⟩) (by simp)).trans (by simp)
      obtain ⟨c0, c1, f0, f1, _, hl3⟩ := S3.out
      have hl2 : w.heap.size < w2.heap.size := S2.out.2.2.2.2.2
      have S4 := Lib.hid (S3.out.set hl2 1 (.int .i64 y))
      obtain ⟨d0, d1, _⟩ := S4.out
      clear hb3 hc1
      go_wp2_with fail
      exact bodyPost_ret (v := .tuple #[.agg #[.int .i64 0, .int .i64 0], .bool false]) (by simp [results, Tryd.results38, go_sem, pair_set d0 d1]) rfl ⟨rfl, S4.out.out2 _ _⟩
    · subst h; subst h'
      rw [HF.out (.inr (.inl rfl))]
      go_enter Tryd.func38, Tryd.ntmps38
      go_wp2_with fail
      refine HSp.out.mono ?_
      rintro e w1 ⟨⟨A, c, ts, rfl, ho, hts⟩, hb1⟩
      obtain ⟨g, rfl, hg1, hg2⟩ := own_some ho (by simp)
      obtain ⟨ta, tb, rfl⟩ : ∃ ta tb, ts = [ta, tb] := by
        match ts, hts with
        | [ta, tb], _ => exact ⟨ta, tb, rfl⟩
      have hda : ta.data.toList = a := by simp at hts; exact hts.1
      have hdb : tb.data.toList = b := by simp at hts; exact hts.2
      have hc0 := own_cellT ho (k := 0) (t := ta) rfl
      have hc1 := own_cellT ho (k := 1) (t := tb) rfl
      have HN := Lib.hid (fun W => l01Number_any ta W (by rw [← len_size, hda]; omega))
      rw [HRd.out ta hda] at HN
      have HN2 := Lib.hid (fun W => l01Number_any tb W (by rw [← len_size, hdb]; omega))
      rw [HRd2.out tb hdb] at HN2
      have S1 := Lib.hid (S0.out.keep hb1)
      have hgw : g < w1.heap.size := hg2
      have HC1 := Lib.hid hc1
      clear hb1 ho hts hda hdb hc1
      go_wp2_with fail
      refine (HN.out w1).mono ?_
      rintro e w2 ⟨rfl, hb2⟩
      have S2 := Lib.hid (S1.out.keep hb2)
      have hc1 : w2.cell? ⟨g, 1, none⟩ = some (.string tb) := (hb2.cell (p := ⟨g, 1, none⟩) hgw).trans HC1.out
      have hgw2 : g < w2.heap.size := Nat.lt_of_lt_of_le hgw hb2.size
      clear hb2 hc0
      go_wp2_with fail
      refine (HN2.out _).mono ?_
      rintro e w3 ⟨rfl, hb3⟩
      have S3 := Lib.hid ((S2.out.keep ((Below.refl _ _).alloc (Nat.le_refl _) _)).keep hb3)
      have k0 : w3.cell? ⟨w2.heap.size, 0, none⟩ = some (.int .i64 x) := (hb3.cell (p := ⟨w2.heap.size, 0, none⟩) (by simp)).trans (newcellA rfl rfl)
      have k1 : w3.cell? ⟨w2.heap.size, 1, none⟩ = some (.int .i64 1) := (hb3.cell (p := ⟨w2.heap.size, 1, none⟩) (by simp)).trans (newcellA rfl rfl)
      have kf : w3.frozen? ⟨w2.heap.size, 1, none⟩ = false := (hb3.frozen (p := ⟨w2.heap.size, 1, none⟩) (by simp)).trans (by simp)
      obtain ⟨c0, c1, f0, f1, _, hl3⟩ := S3.out
      have hl2 : w.heap.size < w2.heap.size := S2.out.2.2.2.2.2
      have S4 := Lib.hid (S3.out.set hl2 1 (.int .i64 y))
      obtain ⟨d0, d1, _⟩ := S4.out
      clear hb3 hc1
      go_wp2_with fail
      exact bodyPost_ret (v := .tuple #[.agg #[.int .i64 0, .int .i64 0], .bool false]) (by simp [results, Tryd.results38, go_sem, pair_set d0 d1]) rfl ⟨rfl, S4.out.out2 _ _⟩
    · subst h; subst h'
      have hy1 : (y != 1) = false := by rw [h'']; rfl
      rw [HF.out (.inr (.inr h''))]
      clear h''
      go_enter Tryd.func38, Tryd.ntmps38
      go_wp2_with fail
      refine HSp.out.mono ?_
      rintro e w1 ⟨⟨A, c, ts, rfl, ho, hts⟩, hb1⟩
      obtain ⟨g, rfl, hg1, hg2⟩ := own_some ho (by simp)
      obtain ⟨ta, tb, rfl⟩ : ∃ ta tb, ts = [ta, tb] := by
        match ts, hts with
        | [ta, tb], _ => exact ⟨ta, tb, rfl⟩
      have hda : ta.data.toList = a := by simp at hts; exact hts.1
      have hdb : tb.data.toList = b := by simp at hts; exact hts.2
      have hc0 := own_cellT ho (k := 0) (t := ta) rfl
      have hc1 := own_cellT ho (k := 1) (t := tb) rfl
      have HN := Lib.hid (fun W => l01Number_any ta W (by rw [← len_size, hda]; omega))
      rw [HRd.out ta hda] at HN
      have HN2 := Lib.hid (fun W => l01Number_any tb W (by rw [← len_size, hdb]; omega))
      rw [HRd2.out tb hdb] at HN2
      have S1 := Lib.hid (S0.out.keep hb1)
      have hgw : g < w1.heap.size := hg2
      have HC1 := Lib.hid hc1
      clear hb1 ho hts hda hdb hc1
      go_wp2_with fail
      refine (HN.out w1).mono ?_
      rintro e w2 ⟨rfl, hb2⟩
      have S2 := Lib.hid (S1.out.keep hb2)
      have hc1 : w2.cell? ⟨g, 1, none⟩ = some (.string tb) := (hb2.cell (p := ⟨g, 1, none⟩) hgw).trans HC1.out
      have hgw2 : g < w2.heap.size := Nat.lt_of_lt_of_le hgw hb2.size
      clear hb2 hc0
      go_wp2_with fail
      refine (HN2.out _).mono ?_
      rintro e w3 ⟨rfl, hb3⟩
      have S3 := Lib.hid ((S2.out.keep ((Below.refl _ _).alloc (Nat.le_refl _) _)).keep hb3)
      have k0 : w3.cell? ⟨w2.heap.size, 0, none⟩ = some (.int .i64 x) := (hb3.cell (p := ⟨w2.heap.size, 0, none⟩) (by simp)).trans (newcellA rfl rfl)
      have k1 : w3.cell? ⟨w2.heap.size, 1, none⟩ = some (.int .i64 1) := (hb3.cell (p := ⟨w2.heap.size, 1, none⟩) (by simp)).trans (newcellA rfl rfl)
      have kf : w3.frozen? ⟨w2.heap.size, 1, none⟩ = false := (hb3.frozen (p := ⟨w2.heap.size, 1, none⟩) (by simp)).trans (by simp)
      obtain ⟨c0, c1, f0, f1, _, hl3⟩ := S3.out
      have hl2 : w.heap.size < w2.heap.size := S2.out.2.2.2.2.2
      have S4 := Lib.hid (S3.out.set hl2 1 (.int .i64 y))
      obtain ⟨d0, d1, _⟩ := S4.out
      clear hb3 hc1
      go_wp2_with fail
      exact bodyPost_ret (v := .tuple #[.agg #[.int .i64 0, .int .i64 0], .bool false]) (by simp [results, Tryd.results38, go_sem, pair_set d0 d1]) rfl ⟨rfl, S4.out.out2 _ _⟩
    · have hy1 : (y != 1) = true := bne_iff_ne.2 h''
      rw [HT.out h h' h'']
      subst h; subst h'; clear h''
      have HV := Lib.hid (fun W => l02Ok_any x y W)
      cases hv : vfB x y
      · rw [hv] at HV
        rw [if_neg (by simp)]
        clear hv
        go_enter Tryd.func38, Tryd.ntmps38
        go_wp2_with fail
        refine HSp.out.mono ?_
        rintro e w1 ⟨⟨A, c, ts, rfl, ho, hts⟩, hb1⟩
        obtain ⟨g, rfl, hg1, hg2⟩ := own_some ho (by simp)
        obtain ⟨ta, tb, rfl⟩ : ∃ ta tb, ts = [ta, tb] := by
          match ts, hts with
          | [ta, tb], _ => exact ⟨ta, tb, rfl⟩
        have hda : ta.data.toList = a := by simp at hts; exact hts.1
        have hdb : tb.data.toList = b := by simp at hts; exact hts.2
        have hc0 := own_cellT ho (k := 0) (t := ta) rfl
        have hc1 := own_cellT ho (k := 1) (t := tb) rfl
        have HN := Lib.hid (fun W => l01Number_any ta W (by rw [← len_size, hda]; omega))
        rw [HRd.out ta hda] at HN
        have HN2 := Lib.hid (fun W => l01Number_any tb W (by rw [← len_size, hdb]; omega))
        rw [HRd2.out tb hdb] at HN2
        have S1 := Lib.hid (S0.out.keep hb1)
        have hgw : g < w1.heap.size := hg2
        have HC1 := Lib.hid hc1
        clear hb1 ho hts hda hdb hc1
        go_wp2_with fail
        refine (HN.out w1).mono ?_
        rintro e w2 ⟨rfl, hb2⟩
        have S2 := Lib.hid (S1.out.keep hb2)
        have hc1 : w2.cell? ⟨g, 1, none⟩ = some (.string tb) := (hb2.cell (p := ⟨g, 1, none⟩) hgw).trans HC1.out
        have hgw2 : g < w2.heap.size := Nat.lt_of_lt_of_le hgw hb2.size
        clear hb2 hc0
        go_wp2_with fail
        refine (HN2.out _).mono ?_
        rintro e w3 ⟨rfl, hb3⟩
        have S3 := Lib.hid ((S2.out.keep ((Below.refl _ _).alloc (Nat.le_refl _) _)).keep hb3)
        have HL2 := Lib.hid (show w2.heap.size < w3.heap.size from by have := hb3.size; simp at this; omega)
        have k0 : w3.cell? ⟨w2.heap.size, 0, none⟩ = some (.int .i64 x) := (hb3.cell (p := ⟨w2.heap.size, 0, none⟩) (by simp)).trans (newcellA rfl rfl)
        have k1 : w3.cell? ⟨w2.heap.size, 1, none⟩ = some (.int .i64 1) := (hb3.cell (p := ⟨w2.heap.size, 1, none⟩) (by simp)).trans (newcellA rfl rfl)
        have kf : w3.frozen? ⟨w2.heap.size, 1, none⟩ = false := (hb3.frozen (p := ⟨w2.heap.size, 1, none⟩) (by simp)).trans (by simp)
        obtain ⟨c0, c1, f0, f1, _, hl3⟩ := S3.out
        have hl2 : w.heap.size < w2.heap.size := S2.out.2.2.2.2.2
        have S4 := Lib.hid (S3.out.set hl2 1 (.int .i64 y))
        obtain ⟨d0, d1, _⟩ := S4.out
        clear hb3 hc1
        go_wp2_with fail
        refine (HV.out _).mono ?_
        rintro e w5 ⟨rfl, hb5⟩
        have S5 := Lib.hid (S4.out.keep hb5)
        have l0 : w5.cell? ⟨w2.heap.size, 0, none⟩ = some (.int .i64 x) := (hb5.cell (p := ⟨w2.heap.size, 0, none⟩) (by simpa using HL2.out)).trans ((pair_set2 k0 k1 (.int .i64 y)).1)
        have l1 : w5.cell? ⟨w2.heap.size, 1, none⟩ = some (.int .i64 y) := (hb5.cell (p := ⟨w2.heap.size, 1, none⟩) (by simpa using HL2.out)).trans ((pair_set2 k0 k1 (.int .i64 y)).2)
        clear hb5 c0 c1 f0 f1 d0 d1 hl3 k0 k1 kf
        obtain ⟨d0, d1, f0, f1, _, hl5⟩ := S5.out
        go_wp2_with fail
        exact bodyPost_ret (v := .tuple #[.agg #[.int .i64 0, .int .i64 0], .bool false]) (by simp [results, Tryd.results38, go_sem, pair_set d0 d1]) rfl ⟨rfl, S5.out.out2 _ _⟩
      · rw [hv] at HV
        rw [if_pos rfl]
        clear hv
        go_enter Tryd.func38, Tryd.ntmps38
        go_wp2_with fail
        refine HSp.out.mono ?_
        rintro e w1 ⟨⟨A, c, ts, rfl, ho, hts⟩, hb1⟩
        obtain ⟨g, rfl, hg1, hg2⟩ := own_some ho (by simp)
        obtain ⟨ta, tb, rfl⟩ : ∃ ta tb, ts = [ta, tb] := by
          match ts, hts with
          | [ta, tb], _ => exact ⟨ta, tb, rfl⟩
        have hda : ta.data.toList = a := by simp at hts; exact hts.1
        have hdb : tb.data.toList = b := by simp at hts; exact hts.2
        have hc0 := own_cellT ho (k := 0) (t := ta) rfl
        have hc1 := own_cellT ho (k := 1) (t := tb) rfl
        have HN := Lib.hid (fun W => l01Number_any ta W (by rw [← len_size, hda]; omega))
        rw [HRd.out ta hda] at HN
        have HN2 := Lib.hid (fun W => l01Number_any tb W (by rw [← len_size, hdb]; omega))
        rw [HRd2.out tb hdb] at HN2
        have S1 := Lib.hid (S0.out.keep hb1)
        have hgw : g < w1.heap.size := hg2
        have HC1 := Lib.hid hc1
        clear hb1 ho hts hda hdb hc1
        go_wp2_with fail
        refine (HN.out w1).mono ?_
        rintro e w2 ⟨rfl, hb2⟩
        have S2 := Lib.hid (S1.out.keep hb2)
        have hc1 : w2.cell? ⟨g, 1, none⟩ = some (.string tb) := (hb2.cell (p := ⟨g, 1, none⟩) hgw).trans HC1.out
        have hgw2 : g < w2.heap.size := Nat.lt_of_lt_of_le hgw hb2.size
        clear hb2 hc0
        go_wp2_with fail
        refine (HN2.out _).mono ?_
        rintro e w3 ⟨rfl, hb3⟩
        have S3 := Lib.hid ((S2.out.keep ((Below.refl _ _).alloc (Nat.le_refl _) _)).keep hb3)
        have HL2 := Lib.hid (show w2.heap.size < w3.heap.size from by have := hb3.size; simp at this; omega)
        have k0 : w3.cell? ⟨w2.heap.size, 0, none⟩ = some (.int .i64 x) := (hb3.cell (p := ⟨w2.heap.size, 0, none⟩) (by simp)).trans (newcellA rfl rfl)
        have k1 : w3.cell? ⟨w2.heap.size, 1, none⟩ = some (.int .i64 1) := (hb3.cell (p := ⟨w2.heap.size, 1, none⟩) (by simp)).trans (newcellA rfl rfl)
        have kf : w3.frozen? ⟨w2.heap.size, 1, none⟩ = false := (hb3.frozen (p := ⟨w2.heap.size, 1, none⟩) (by simp)).trans (by simp)
        obtain ⟨c0, c1, f0, f1, _, hl3⟩ := S3.out
        have hl2 : w.heap.size < w2.heap.size := S2.out.2.2.2.2.2
        have S4 := Lib.hid (S3.out.set hl2 1 (.int .i64 y))
        obtain ⟨d0, d1, _⟩ := S4.out
        clear hb3 hc1
        go_wp2_with fail
        refine (HV.out _).mono ?_
        rintro e w5 ⟨rfl, hb5⟩
        have S5 := Lib.hid (S4.out.keep hb5)
        have l0 : w5.cell? ⟨w2.heap.size, 0, none⟩ = some (.int .i64 x) := (hb5.cell (p := ⟨w2.heap.size, 0, none⟩) (by simpa using HL2.out)).trans ((pair_set2 k0 k1 (.int .i64 y)).1)
        have l1 : w5.cell? ⟨w2.heap.size, 1, none⟩ = some (.int .i64 y) := (hb5.cell (p := ⟨w2.heap.size, 1, none⟩) (by simpa using HL2.out)).trans ((pair_set2 k0 k1 (.int .i64 y)).2)
        clear hb5 c0 c1 f0 f1 d0 d1 hl3 k0 k1 kf
        obtain ⟨d0, d1, f0, f1, _, hl5⟩ := S5.out
        go_wp2_with fail
        exact bodyPost_ret (v := .tuple #[.agg #[.int .i64 x, .int .i64 y], .bool true]) (by simp [results, Tryd.results38, go_sem, pair_set d0 d1]) rfl ⟨rfl, S5.out.out2 _ _⟩
  | a :: b :: d :: r, _ =>
    have hn0 : rfT s = (0, 0, false) := rfT_none HO.out
    rw [hn0]
    have hal := HLs.out a (by simp)
    obtain ⟨n, hn⟩ : ∃ n, n = (a :: b :: d :: r).length := ⟨_, rfl⟩
    have hn3 : 3 ≤ n := by rw [hn]; simp
    have HNn := Lib.hid hn
    clear hn hn0
    go_enter Tryd.func38, Tryd.ntmps38
    go_wp2_with fail
    refine HSp.out.mono ?_
    rintro e w1 ⟨⟨A, c, ts, rfl, ho, hts⟩, hb1⟩
    rw [← HNn.out] at ho ⊢
    obtain ⟨g, rfl, hg1, hg2⟩ := own_some ho (by omega)
    obtain ⟨ta, tr, rfl⟩ : ∃ ta tr, ts = ta :: tr := by
      match ts, hts with
      | ta :: tr, _ => exact ⟨ta, tr, rfl⟩
    have hda : ta.data.toList = a := by simp at hts; exact hts.1
    have hc0 := own_cellT ho (k := 0) (t := ta) rfl
    have HN := Lib.hid (fun W => l01Number_any ta W (by rw [← len_size, hda]; omega))
    obtain ⟨x, ok, hR⟩ : ∃ x ok, rdT ta = (x, ok) := ⟨_, _, rfl⟩
    rw [hR] at HN
    have S1 := Lib.hid (S0.out.keep hb1)
    have hn2 : ((n : Int) == 2) = false := beq_eq_false_iff_ne.2 (by omega)
    clear hb1 ho hts hda hR
    cases ok
    · go_wp2_with fail
      refine (HN.out w1).mono ?_
      rintro e w2 ⟨rfl, hb2⟩
      have S2 := Lib.hid (S1.out.keep hb2)
      obtain ⟨c0, c1, f0, f1, _, hl2⟩ := S2.out
      clear hb2 hc0
      go_wp2_with fail
      exact bodyPost_ret (v := .tuple #[.agg #[.int .i64 0, .int .i64 0], .bool false]) (by simp [results, Tryd.results38, go_sem, (S2.out.res _ _ _).1, (S2.out.res _ _ _).2]) rfl ⟨rfl, (S2.out.out2 _ _).alloc (S2.out.out2 _ _).size _⟩
    · go_wp2_with fail
      refine (HN.out w1).mono ?_
      rintro e w2 ⟨rfl, hb2⟩
      have S2 := Lib.hid (S1.out.keep hb2)
      obtain ⟨c0, c1, f0, f1, _, hl2⟩ := S2.out
      clear hb2 hc0
      go_wp2_with fail
      exact bodyPost_ret (v := .tuple #[.agg #[.int .i64 0, .int .i64 0], .bool false]) (by simp [results, Tryd.results38, go_sem, (S2.out.res _ _ _).1, (S2.out.res _ _ _).2]) rfl ⟨rfl, (S2.out.out2 _ _).alloc (S2.out.out2 _ _).size _⟩
end Go.Proofs.YtnikogholldcmaaDoor
