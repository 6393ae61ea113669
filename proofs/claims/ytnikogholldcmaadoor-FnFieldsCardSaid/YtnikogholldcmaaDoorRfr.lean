/-
  Fractions read from texts: contracts of the program's and of the reference's functions; the walk of the law FnExactReadFraction.
  The table of the powers of ten and the two errors of strconv hold what their initialisers lay; MaxLen holds a number.
-/
import Derived.Test.YtnikogholldcmaaDoorProg
import Derived.Test.YtnikogholldcmaaDoorShelf
import Derived.Test.YtnikogholldcmaaDoorMem
import Derived.Test.YtnikogholldcmaaDoorBasic
import Derived.Test.YtnikogholldcmaaDoorSig
import Derived.Test.YtnikogholldcmaaDoorFrac
import Derived.Test.YtnikogholldcmaaDoorVfrac
import Derived.Test.YtnikogholldcmaaDoorFrac2
import Derived.Test.YtnikogholldcmaaDoorFrac3
import Derived.Test.YtnikogholldcmaaDoorOwn
import Derived.Test.YtnikogholldcmaaDoorNumM
import Derived.Test.YtnikogholldcmaaDoorDec
import Derived.Test.YtnikogholldcmaaDoorFtx
import Derived.Test.YtnikogholldcmaaDoorRdd
import Derived.Test.YtnikogholldcmaaDoorRds
import Derived.Test.YtnikogholldcmaaDoorTtx
import Derived.Test.YtnikogholldcmaaDoorSpl
import Derived.Test.YtnikogholldcmaaDoorRfrM
import Derived.Handy
import Derived.BigQuiet
import Derived.Deep.QuietTactic
namespace Go.Proofs.YtnikogholldcmaaDoor
open Go.RowKit
set_option linter.unusedVariables false
set_option linter.unusedSimpArgs false
attribute [local go_sem ↓] Go.wp_at_zero Go.wp_at_succ

/-- A box of two numbers that the call has made first. -/
def Bx (w W : World) (x y : Int) : Prop := W.cell? ⟨w.heap.size, 0, none⟩ = some (.int .i64 x) ∧ W.cell? ⟨w.heap.size, 1, none⟩ = some (.int .i64 y) ∧ W.frozen? ⟨w.heap.size, 0, none⟩ = false ∧ W.frozen? ⟨w.heap.size, 1, none⟩ = false ∧ Below w.heap.size w W ∧ w.heap.size < W.heap.size
theorem Bx.start (w : World) (x y : Int) (t : TypeId) : Bx w (w.alloc (.cells #[.int .i64 x, .int .i64 y] t)) x y :=
  ⟨newcellA rfl rfl, newcellA rfl rfl, by simp, by simp, (Below.refl _ _).alloc (Nat.le_refl _) _, by simp⟩
theorem Bx.keep {w W w1 : World} {x y : Int} (h : Bx w W x y) (hb : Below W.heap.size W w1) : Bx w w1 x y := by
  obtain ⟨h1, h2, f1, f2, h3, h4⟩ := h
  exact ⟨(hb.cell (p := ⟨w.heap.size, 0, none⟩) h4).trans h1, (hb.cell (p := ⟨w.heap.size, 1, none⟩) h4).trans h2, (hb.frozen (p := ⟨w.heap.size, 0, none⟩) h4).trans f1, (hb.frozen (p := ⟨w.heap.size, 1, none⟩) h4).trans f2, h3.trans (hb.mono h3.size), Nat.lt_of_lt_of_le h4 hb.size⟩
theorem Bx.bel {w W : World} {x y : Int} (h : Bx w W x y) : Below w.heap.size w W := h.2.2.2.2.1
theorem Bx.out2 {w W : World} {x y : Int} (h : Bx w W x y) (u v : Value) : Below w.heap.size w ((W.setCell ⟨w.heap.size, 0, none⟩ u).setCell ⟨w.heap.size, 1, none⟩ v) :=
  (h.bel.setCell (p := ⟨w.heap.size, 0, none⟩) (Nat.le_refl _) _).setCell (p := ⟨w.heap.size, 1, none⟩) (Nat.le_refl _) _
theorem Bx.res {w W : World} {x y : Int} (h : Bx w W x y) (o : Obj) (u v : Value) :
    (((W.setCell ⟨w.heap.size, 0, none⟩ u).setCell ⟨w.heap.size, 1, none⟩ v).alloc o).cell? ⟨w.heap.size, 0, none⟩ = some u ∧ (((W.setCell ⟨w.heap.size, 0, none⟩ u).setCell ⟨w.heap.size, 1, none⟩ v).alloc o).cell? ⟨w.heap.size, 1, none⟩ = some v :=
  ⟨(World.cell?_alloc_lt _ o _ (by simpa using h.2.2.2.2.2)).trans (pair_set h.1 h.2.1 u v).2.1, (World.cell?_alloc_lt _ o _ (by simpa using h.2.2.2.2.2)).trans (pair_set h.1 h.2.1 u v).2.2⟩
theorem cutAny (s : ByteArray) (w : World) (hs : s.size ≤ 1048576) (hm : Mx w) :
    Calls Tryd.prog 79 #[.string s, .string ⟨#[47]⟩] w fun e w' => e = .returned (.tuple #[.string ⟨(Lib.cut s.data.toList [47]).1.toArray⟩, .string ⟨(Lib.cut s.data.toList [47]).2.1.toArray⟩, .bool (Lib.cut s.data.toList [47]).2.2]) ∧ Below w.heap.size w w' := by
  obtain ⟨m, hm⟩ := hm
  refine (Tryd.strings_Cut s ⟨#[47]⟩ m w (by omega) hm).mono ?_
  rintro e w' ⟨he, n, rfl⟩
  exact ⟨he, below_drewN _ _ _⟩

set_option maxRecDepth 100000 in
set_option maxHeartbeats 3200000 in
theorem implRfr_any (s : ByteArray) (w : World) (hs : s.size ≤ 1048576) (hd : Dr w) (he : Er w) (hm : Mx w) :
    Calls Tryd.prog 39 #[.string s] w fun e w' => e = .returned (.tuple #[.agg #[.int .i64 (rfT s).1, .int .i64 (rfT s).2.1], .bool (rfT s).2.2]) ∧ Below w.heap.size w w' := by
  have S0 := Lib.hid (Bx.start w 0 0 33)
  have HD := Lib.hid hd
  have HE := Lib.hid he
  have HC := Lib.hid (cutAny s _ hs (hm.below S0.out.bel))
  clear hd he hm
  -- the two pieces, the second one as the program takes it
  obtain ⟨a, b, f, hcut, b', hb', hla, hlb, hcase⟩ : ∃ (a b : List UInt8) (f : Bool), Lib.cut s.data.toList [47] = (a, b, f) ∧ ∃ b' : List UInt8, b' = (if f = true then b else [49]) ∧ a.length ≤ 1048576 ∧ b'.length ≤ 1048576 ∧
      ((rdB a = false ∨ rdB b' = false → rfO s = none) ∧ (rdB a = true → rdB b' = true → s.data.toList ≠ [] ∧ ((frS (valI a) (valI b') = s ∧ rfO s = some (valI a, valI b')) ∨ (frS (valI a) (valI b') ≠ s ∧ rfO s = none)))) := by
    have hsz : s.data.toList.length ≤ 1048576 := by rw [len_size]; exact hs
    by_cases hi : Lib.index s.data.toList [47] = -1
    · obtain ⟨h1, h2⟩ := cut_none hi
      obtain ⟨k1, k2⟩ := rf_one h2
      refine ⟨_, _, _, h1, [49], rfl, hsz, by simp, ?_, ?_⟩
      · rintro (h | h)
        · exact k1 h
        · rw [rd_one.1] at h; cases h
      · intro ha _
        rw [rd_one.2]
        exact ⟨fun e => (rdB_form ha).2.2.2.1 (by rw [e]; rfl), k2 ha⟩
    · obtain ⟨a, b, h1, h2, h3⟩ := cut_some hi
      obtain ⟨k1, k2⟩ := rf_two h2 h3
      have hll := congrArg List.length h2
      simp only [List.length_append, List.length_cons] at hll
      refine ⟨a, b, true, h1, b, rfl, by omega, by omega, k1, fun ha hb => ⟨?_, k2 ha hb⟩⟩
      rw [h2]; simp
  rw [hcut] at HC
  simp only at HC
  have HA := Lib.hid (fun W d e => readDecimal_any ⟨a.toArray⟩ W (by show a.toArray.size ≤ _; simpa using hla) d e)
  have HB := Lib.hid (fun W d e => readDecimal_any ⟨b'.toArray⟩ W (by show b'.toArray.size ≤ _; simpa using hlb) d e)
  have hra : rdT ⟨a.toArray⟩ = if rdB a = true then (valI a, true) else (0, false) := by unfold rdT; rw [data_mk]
  have hrb : rdT ⟨b'.toArray⟩ = if rdB b' = true then (valI b', true) else (0, false) := by unfold rdT; rw [data_mk]
  rw [hra] at HA
  rw [hrb] at HB
  have hva : rdB a = true → -9223372036854775808 ≤ valI a ∧ valI a ≤ 9223372036854775807 := fun h => by have := (rdB_form h).2.2.2.2; omega
  have hvb : rdB b' = true → -9223372036854775808 ≤ valI b' ∧ valI b' ≤ 9223372036854775807 := fun h => by have := (rdB_form h).2.2.2.2; omega
  have HCs := Lib.hid hcase
  clear hcase hra hrb hcut hla hlb
  cases f
  · obtain rfl : (b' = [49]) := hb'
    try clear hb'
    cases ha : rdB a
    · rw [rfT_none (HCs.out.1 (.inl ha))]
      rw [ha] at HA
      clear HCs hva hvb
      obtain ⟨R, hR⟩ : ∃ R : Int × Bool, R = (if rdB [49] = true then (valI [49], true) else (0, false)) := ⟨_, rfl⟩
      rw [← hR] at HB
      clear hR
      go_enter Tryd.func39, Tryd.ntmps39
      go_wp2_with fail
      refine HC.out.mono ?_
      rintro e w1 ⟨rfl, hb1⟩
      have S1 := Lib.hid (S0.out.keep hb1)
      clear hb1
      go_wp2_with fail
      refine (HA.out w1 (HD.out.below S1.out.bel) (HE.out.below S1.out.bel)).mono ?_
      rintro e w2 ⟨rfl, hb2⟩
      have S2 := Lib.hid (S1.out.keep hb2)
      clear hb2
      go_wp2_with fail
      refine (HB.out w2 (HD.out.below S2.out.bel) (HE.out.below S2.out.bel)).mono ?_
      rintro e w3 ⟨rfl, hb3⟩
      have S3 := Lib.hid (S2.out.keep hb3)
      have S4 := Lib.hid (S3.out.keep ((Below.refl _ _).alloc (Nat.le_refl _) (.cells #[.int .i64 0, .int .i64 R.1] 33)))
      obtain ⟨c0, c1, f0, f1, _, hl3⟩ := S3.out
      obtain ⟨d0, d1, _⟩ := S4.out
      clear hb3
      go_wp2_with fail
      exact bodyPost_ret (v := .tuple #[.agg #[.int .i64 0, .int .i64 0], .bool false]) (by simp [results, Tryd.results39, go_sem, (S3.out.res _ _ _).1, (S3.out.res _ _ _).2]) rfl ⟨rfl, (S3.out.out2 _ _).alloc (S3.out.out2 _ _).size _⟩
    · cases hb : rdB [49]
      · rw [rfT_none (HCs.out.1 (.inr hb))]
        rw [ha] at HA
        rw [hb] at HB
        clear HCs hva hvb
        go_enter Tryd.func39, Tryd.ntmps39
        go_wp2_with fail
        refine HC.out.mono ?_
        rintro e w1 ⟨rfl, hb1⟩
        have S1 := Lib.hid (S0.out.keep hb1)
        clear hb1
        go_wp2_with fail
        refine (HA.out w1 (HD.out.below S1.out.bel) (HE.out.below S1.out.bel)).mono ?_
        rintro e w2 ⟨rfl, hb2⟩
        have S2 := Lib.hid (S1.out.keep hb2)
        clear hb2
        go_wp2_with fail
        refine (HB.out w2 (HD.out.below S2.out.bel) (HE.out.below S2.out.bel)).mono ?_
        rintro e w3 ⟨rfl, hb3⟩
        have S3 := Lib.hid (S2.out.keep hb3)
        have S4 := Lib.hid (S3.out.keep ((Below.refl _ _).alloc (Nat.le_refl _) (.cells #[.int .i64 (valI a), .int .i64 0] 33)))
        obtain ⟨c0, c1, f0, f1, _, hl3⟩ := S3.out
        obtain ⟨d0, d1, _⟩ := S4.out
        clear hb3
        go_wp2_with fail
        exact bodyPost_ret (v := .tuple #[.agg #[.int .i64 0, .int .i64 0], .bool false]) (by simp [results, Tryd.results39, go_sem, (S3.out.res _ _ _).1, (S3.out.res _ _ _).2]) rfl ⟨rfl, (S3.out.out2 _ _).alloc (S3.out.out2 _ _).size _⟩
      · obtain ⟨hne, hX⟩ := HCs.out.2 ha hb
        rw [ha] at HA
        rw [hb] at HB
        obtain ⟨va1, va2⟩ := hva ha
        obtain ⟨vb1, vb2⟩ := hvb hb
        have hse : (s.toList == []) = false := by rw [ByteArray.toList_eq]; exact beq_eq_false_iff_ne.2 hne
        generalize valI a = x at *
        generalize valI [49] = y at *
        clear HCs hva hvb hne ha hb
        rcases hX with ⟨hq, hr⟩ | ⟨hq, hr⟩
        · rw [rfT_some hr]
          have htl := tl_t hq
          clear hq hr
          go_enter Tryd.func39, Tryd.ntmps39
          go_wp2_with fail
          refine HC.out.mono ?_
          rintro e w1 ⟨rfl, hb1⟩
          have S1 := Lib.hid (S0.out.keep hb1)
          clear hb1
          go_wp2_with fail
          refine (HA.out w1 (HD.out.below S1.out.bel) (HE.out.below S1.out.bel)).mono ?_
          rintro e w2 ⟨rfl, hb2⟩
          have S2 := Lib.hid (S1.out.keep hb2)
          clear hb2
          go_wp2_with fail
          refine (HB.out w2 (HD.out.below S2.out.bel) (HE.out.below S2.out.bel)).mono ?_
          rintro e w3 ⟨rfl, hb3⟩
          have S3 := Lib.hid (S2.out.keep hb3)
          have S4 := Lib.hid (S3.out.keep ((Below.refl _ _).alloc (Nat.le_refl _) (.cells #[.int .i64 x, .int .i64 y] 33)))
          clear hb3
          go_wp2_with fail
          refine (implFtx_any x y _ (HD.out.below S4.out.bel)).mono ?_
          rintro e w5 ⟨rfl, hb5⟩
          have S5 := Lib.hid (S4.out.keep hb5)
          have k0 : w5.cell? ⟨w3.heap.size, 0, none⟩ = some (.int .i64 x) := (hb5.cell (p := ⟨w3.heap.size, 0, none⟩) (by simp)).trans (newcellA rfl rfl)
          have k1 : w5.cell? ⟨w3.heap.size, 1, none⟩ = some (.int .i64 y) := (hb5.cell (p := ⟨w3.heap.size, 1, none⟩) (by simp)).trans (newcellA rfl rfl)
          obtain ⟨d0, d1, f0, f1, _, hl5⟩ := S5.out
          clear hb5
          go_wp2_with fail
          exact bodyPost_ret (v := .tuple #[.agg #[.int .i64 x, .int .i64 y], .bool true]) (by simp [results, Tryd.results39, go_sem, pair_set d0 d1]) rfl ⟨rfl, S5.out.out2 _ _⟩
        · rw [rfT_none hr]
          have htl := tl_f hq
          clear hq hr
          go_enter Tryd.func39, Tryd.ntmps39
          go_wp2_with fail
          refine HC.out.mono ?_
          rintro e w1 ⟨rfl, hb1⟩
          have S1 := Lib.hid (S0.out.keep hb1)
          clear hb1
          go_wp2_with fail
          refine (HA.out w1 (HD.out.below S1.out.bel) (HE.out.below S1.out.bel)).mono ?_
          rintro e w2 ⟨rfl, hb2⟩
          have S2 := Lib.hid (S1.out.keep hb2)
          clear hb2
          go_wp2_with fail
          refine (HB.out w2 (HD.out.below S2.out.bel) (HE.out.below S2.out.bel)).mono ?_
          rintro e w3 ⟨rfl, hb3⟩
          have S3 := Lib.hid (S2.out.keep hb3)
          have S4 := Lib.hid (S3.out.keep ((Below.refl _ _).alloc (Nat.le_refl _) (.cells #[.int .i64 x, .int .i64 y] 33)))
          clear hb3
          go_wp2_with fail
          refine (implFtx_any x y _ (HD.out.below S4.out.bel)).mono ?_
          rintro e w5 ⟨rfl, hb5⟩
          have S5 := Lib.hid (S4.out.keep hb5)
          obtain ⟨d0, d1, f0, f1, _, hl5⟩ := S5.out
          clear hb5
          go_wp2_with fail
          exact bodyPost_ret (v := .tuple #[.agg #[.int .i64 0, .int .i64 0], .bool false]) (by simp [results, Tryd.results39, go_sem, pair_set d0 d1]) rfl ⟨rfl, S5.out.out2 _ _⟩
  · obtain rfl : (b = b') := hb'.symm
    try clear hb'
    cases ha : rdB a
    · rw [rfT_none (HCs.out.1 (.inl ha))]
      rw [ha] at HA
      clear HCs hva hvb
      obtain ⟨R, hR⟩ : ∃ R : Int × Bool, R = (if rdB b = true then (valI b, true) else (0, false)) := ⟨_, rfl⟩
      rw [← hR] at HB
      clear hR
      go_enter Tryd.func39, Tryd.ntmps39
      go_wp2_with fail
      refine HC.out.mono ?_
      rintro e w1 ⟨rfl, hb1⟩
      have S1 := Lib.hid (S0.out.keep hb1)
      clear hb1
      go_wp2_with fail
      refine (HA.out w1 (HD.out.below S1.out.bel) (HE.out.below S1.out.bel)).mono ?_
      rintro e w2 ⟨rfl, hb2⟩
      have S2 := Lib.hid (S1.out.keep hb2)
      clear hb2
      go_wp2_with fail
      refine (HB.out w2 (HD.out.below S2.out.bel) (HE.out.below S2.out.bel)).mono ?_
      rintro e w3 ⟨rfl, hb3⟩
      have S3 := Lib.hid (S2.out.keep hb3)
      have S4 := Lib.hid (S3.out.keep ((Below.refl _ _).alloc (Nat.le_refl _) (.cells #[.int .i64 0, .int .i64 R.1] 33)))
      obtain ⟨c0, c1, f0, f1, _, hl3⟩ := S3.out
      obtain ⟨d0, d1, _⟩ := S4.out
      clear hb3
      go_wp2_with fail
      exact bodyPost_ret (v := .tuple #[.agg #[.int .i64 0, .int .i64 0], .bool false]) (by simp [results, Tryd.results39, go_sem, (S3.out.res _ _ _).1, (S3.out.res _ _ _).2]) rfl ⟨rfl, (S3.out.out2 _ _).alloc (S3.out.out2 _ _).size _⟩
    · cases hb : rdB b
      · rw [rfT_none (HCs.out.1 (.inr hb))]
        rw [ha] at HA
        rw [hb] at HB
        clear HCs hva hvb
        go_enter Tryd.func39, Tryd.ntmps39
        go_wp2_with fail
        refine HC.out.mono ?_
        rintro e w1 ⟨rfl, hb1⟩
        have S1 := Lib.hid (S0.out.keep hb1)
        clear hb1
        go_wp2_with fail
        refine (HA.out w1 (HD.out.below S1.out.bel) (HE.out.below S1.out.bel)).mono ?_
        rintro e w2 ⟨rfl, hb2⟩
        have S2 := Lib.hid (S1.out.keep hb2)
        clear hb2
        go_wp2_with fail
        refine (HB.out w2 (HD.out.below S2.out.bel) (HE.out.below S2.out.bel)).mono ?_
        rintro e w3 ⟨rfl, hb3⟩
        have S3 := Lib.hid (S2.out.keep hb3)
        have S4 := Lib.hid (S3.out.keep ((Below.refl _ _).alloc (Nat.le_refl _) (.cells #[.int .i64 (valI a), .int .i64 0] 33)))
        obtain ⟨c0, c1, f0, f1, _, hl3⟩ := S3.out
        obtain ⟨d0, d1, _⟩ := S4.out
        clear hb3
        go_wp2_with fail
        exact bodyPost_ret (v := .tuple #[.agg #[.int .i64 0, .int .i64 0], .bool false]) (by simp [results, Tryd.results39, go_sem, (S3.out.res _ _ _).1, (S3.out.res _ _ _).2]) rfl ⟨rfl, (S3.out.out2 _ _).alloc (S3.out.out2 _ _).size _⟩
      · obtain ⟨hne, hX⟩ := HCs.out.2 ha hb
        rw [ha] at HA
        rw [hb] at HB
        obtain ⟨va1, va2⟩ := hva ha
        obtain ⟨vb1, vb2⟩ := hvb hb
        have hse : (s.toList == []) = false := by rw [ByteArray.toList_eq]; exact beq_eq_false_iff_ne.2 hne
        generalize valI a = x at *
        generalize valI b = y at *
        clear HCs hva hvb hne ha hb
        rcases hX with ⟨hq, hr⟩ | ⟨hq, hr⟩
        · rw [rfT_some hr]
          have htl := tl_t hq
          clear hq hr
          go_enter Tryd.func39, Tryd.ntmps39
          go_wp2_with fail
          refine HC.out.mono ?_
          rintro e w1 ⟨rfl, hb1⟩
          have S1 := Lib.hid (S0.out.keep hb1)
          clear hb1
          go_wp2_with fail
          refine (HA.out w1 (HD.out.below S1.out.bel) (HE.out.below S1.out.bel)).mono ?_
          rintro e w2 ⟨rfl, hb2⟩
          have S2 := Lib.hid (S1.out.keep hb2)
          clear hb2
          go_wp2_with fail
          refine (HB.out w2 (HD.out.below S2.out.bel) (HE.out.below S2.out.bel)).mono ?_
          rintro e w3 ⟨rfl, hb3⟩
          have S3 := Lib.hid (S2.out.keep hb3)
          have S4 := Lib.hid (S3.out.keep ((Below.refl _ _).alloc (Nat.le_refl _) (.cells #[.int .i64 x, .int .i64 y] 33)))
          clear hb3
          go_wp2_with fail
          refine (implFtx_any x y _ (HD.out.below S4.out.bel)).mono ?_
          rintro e w5 ⟨rfl, hb5⟩
          have S5 := Lib.hid (S4.out.keep hb5)
          have k0 : w5.cell? ⟨w3.heap.size, 0, none⟩ = some (.int .i64 x) := (hb5.cell (p := ⟨w3.heap.size, 0, none⟩) (by simp)).trans (newcellA rfl rfl)
          have k1 : w5.cell? ⟨w3.heap.size, 1, none⟩ = some (.int .i64 y) := (hb5.cell (p := ⟨w3.heap.size, 1, none⟩) (by simp)).trans (newcellA rfl rfl)
          obtain ⟨d0, d1, f0, f1, _, hl5⟩ := S5.out
          clear hb5
          go_wp2_with fail
          exact bodyPost_ret (v := .tuple #[.agg #[.int .i64 x, .int .i64 y], .bool true]) (by simp [results, Tryd.results39, go_sem, pair_set d0 d1]) rfl ⟨rfl, S5.out.out2 _ _⟩
        · rw [rfT_none hr]
          have htl := tl_f hq
          clear hq hr
          go_enter Tryd.func39, Tryd.ntmps39
          go_wp2_with fail
          refine HC.out.mono ?_
          rintro e w1 ⟨rfl, hb1⟩
          have S1 := Lib.hid (S0.out.keep hb1)
          clear hb1
          go_wp2_with fail
          refine (HA.out w1 (HD.out.below S1.out.bel) (HE.out.below S1.out.bel)).mono ?_
          rintro e w2 ⟨rfl, hb2⟩
          have S2 := Lib.hid (S1.out.keep hb2)
          clear hb2
          go_wp2_with fail
          refine (HB.out w2 (HD.out.below S2.out.bel) (HE.out.below S2.out.bel)).mono ?_
          rintro e w3 ⟨rfl, hb3⟩
          have S3 := Lib.hid (S2.out.keep hb3)
          have S4 := Lib.hid (S3.out.keep ((Below.refl _ _).alloc (Nat.le_refl _) (.cells #[.int .i64 x, .int .i64 y] 33)))
          clear hb3
          go_wp2_with fail
          refine (implFtx_any x y _ (HD.out.below S4.out.bel)).mono ?_
          rintro e w5 ⟨rfl, hb5⟩
          have S5 := Lib.hid (S4.out.keep hb5)
          obtain ⟨d0, d1, f0, f1, _, hl5⟩ := S5.out
          clear hb5
          go_wp2_with fail
          exact bodyPost_ret (v := .tuple #[.agg #[.int .i64 0, .int .i64 0], .bool false]) (by simp [results, Tryd.results39, go_sem, pair_set d0 d1]) rfl ⟨rfl, S5.out.out2 _ _⟩
end Go.Proofs.YtnikogholldcmaaDoor
