/-
  The walks of the laws FnExactCommonTerms and FnExactValidPath: each returns true.
  No condition but those of the laws' own texts.
-/
import Derived.Test.YtbchokafjnehoaaProg
import Derived.Test.YtbchokafjnehoaaMem
import Derived.Test.YtbchokafjnehoaaBasic
import Derived.Test.YtbchokafjnehoaaInts
import Derived.Handy
namespace Go.Proofs.Ytbchokafjnehoaa
open Go.RowKit
set_option linter.unusedVariables false

/-- How many of the first elements of both lists are equal. -/
def comm : List Int → List Int → Nat
  | a :: x, b :: y => if a = b then comm x y + 1 else 0
  | _, _ => 0
theorem comm_le1 : ∀ x y : List Int, comm x y ≤ x.length
  | [], y => by simp [comm]
  | a :: x, [] => by simp [comm]
  | a :: x, b :: y => by
    unfold comm; split
    · have := comm_le1 x y; simp; omega
    · simp
theorem comm_le2 : ∀ x y : List Int, comm x y ≤ y.length
  | [], y => by simp [comm]
  | a :: x, [] => by simp [comm]
  | a :: x, b :: y => by
    unfold comm; split
    · have := comm_le2 x y; simp; omega
    · simp
theorem comm_lt : ∀ (x y : List Int) (k : Nat) (a b : Int), x[k]? = some a → y[k]? = some b → k < comm x y → a = b
  | [], y, k, a, b, h, _, _ => by simp at h
  | c :: x, [], k, a, b, _, h, _ => by simp at h
  | c :: x, d :: y, 0, a, b, h1, h2, h => by
    simp at h1 h2; subst h1 h2
    unfold comm at h; split at h
    · assumption
    · omega
  | c :: x, d :: y, k + 1, a, b, h1, h2, h => by
    unfold comm at h; split at h
    · exact comm_lt x y k a b (by simpa using h1) (by simpa using h2) (by omega)
    · omega
theorem comm_at : ∀ (x y : List Int) (a b : Int), x[comm x y]? = some a → y[comm x y]? = some b → a ≠ b
  | [], y, a, b, h, _ => by simp at h
  | c :: x, [], a, b, _, h => by simp at h
  | c :: x, d :: y, a, b, h1, h2 => by
    unfold comm at h1 h2
    split at h1
    · rename_i he
      rw [if_pos he] at h2
      exact comm_at x y a b (by simpa using h1) (by simpa using h2)
    · rename_i he
      rw [if_neg he] at h2
      simp at h1 h2; subst h1 h2; exact he

theorem implCommon_any (A : Option Addr) (n cap : Nat) (A' : Option Addr) (n' cap' : Nat) (zs ys : List Int) (w : World) (h : IRow w A n zs) (h' : IRow w A' n' ys) :
    Calls Try.prog 22 #[.slice A n cap, .slice A' n' cap'] w fun e w' => e = .returned (.int .i64 (comm zs ys : Nat)) ∧ ∃ m, w' = w.drewN m := by
  have hbd := h.bd
  have hbd' := h'.bd
  have hl1 := comm_le1 zs ys
  have hl2 := comm_le2 zs ys
  rw [h.len] at hl1
  rw [h'.len] at hl2
  obtain ⟨C, hC⟩ : ∃ C, C = comm zs ys := ⟨_, rfl⟩
  rw [← hC] at hl1 hl2 ⊢
  have HC := Lib.hid hC; clear hC
  have hw := Lib.hid h; clear h
  have hw' := Lib.hid h'; clear h'
  go_enter Try.func22, Try.ntmps22
  go_wp2
  go_loopw [5] (fun i wr => ∃ k : Nat, k ≤ C ∧ i = .int .i64 k ∧ ∃ m, wr = w.drewN m) (fun i _ => C - (intOf i).toNat)
  case atStart => exact ⟨0, Nat.zero_le _, rfl, 0, rfl⟩
  case round =>
    obtain ⟨k, hk, rfl, m, rfl⟩ := hrel
    by_cases hlt : k < C
    · obtain ⟨ad, z, rfl, hz, z1, z2, hc⟩ := hw.out.at_ (k := k) (by omega)
      obtain ⟨ad', z', rfl, hz', z1', z2', hc'⟩ := hw'.out.at_ (k := k) (by omega)
      have he : z = z' := comm_lt zs ys k z z' hz hz' (by rw [← HC.out]; exact hlt)
      subst he
      clear hz hz'
      have hb0 : (0 : Int) ≤ (k : Int) := by omega
      have hb1 : k < n := by omega
      have hb2 : k < n' := by omega
      go_wp2
      go_quiet (fail)
      go_wp2
      go_roundw
      case rel => exact ⟨k + 1, by omega, by go_num, _, rfl⟩
      case measure => simp [intOf]; omega
    · obtain rfl : C = k := by omega
      by_cases h1 : C < n
      · by_cases h2 : C < n'
        · obtain ⟨ad, z, rfl, hz, z1, z2, hc⟩ := hw.out.at_ (k := C) (by omega)
          obtain ⟨ad', z', rfl, hz', z1', z2', hc'⟩ := hw'.out.at_ (k := C) (by omega)
          have hne : (z == z') = false := by
            rw [beq_eq_false_iff_ne]
            have HC' := HC.out
            exact comm_at zs ys z z' (by rw [← HC']; exact hz) (by rw [← HC']; exact hz')
          clear hz hz'
          have hb0 : (0 : Int) ≤ (C : Int) := by omega
          have hb1 : C < n := by omega
          have hb2 : C < n' := by omega
          go_wp2
          go_quiet (fail)
          go_wp2
          go_ret
          exact ⟨rfl, _, World.drewN_drewN _ _ _⟩
        · have hb2 : decide (C < n') = false := decide_eq_false (by omega)
          have hb1 : C < n := by omega
          go_wp2
          go_quiet (fail)
          go_wp2
          go_ret
          exact ⟨rfl, _, World.drewN_drewN _ _ _⟩
      · have hb1 : decide (C < n) = false := decide_eq_false (by omega)
        go_wp2
        go_quiet (fail)
        go_wp2
        go_ret
        exact ⟨rfl, _, World.drewN_drewN _ _ _⟩
theorem implCommon_b (A : Option Addr) (n cap : Nat) (A' : Option Addr) (n' cap' : Nat) (zs ys : List Int) (w : World) (h : IRow w A n zs) (h' : IRow w A' n' ys) :
    Calls Try.prog 22 #[.slice A n cap, .slice A' n' cap'] w fun e w' => e = .returned (.int .i64 (comm zs ys : Nat)) ∧ Below w.heap.size w w' :=
  (implCommon_any A n cap A' n' cap' zs ys w h h').mono fun _ _ ⟨he, _, hw⟩ => ⟨he, hw ▸ below_drewN _ _ _⟩
theorem specCommon_any (A : Option Addr) (n cap : Nat) (A' : Option Addr) (n' cap' : Nat) (zs ys : List Int) (w : World) (h : IRow w A n zs) (h' : IRow w A' n' ys) :
    Calls Try.prog 20 #[.slice A n cap, .slice A' n' cap'] w fun e w' => e = .returned (.int .i64 (comm zs ys : Nat)) ∧ ∃ m, w' = w.drewN m := by
  have hbd := h.bd
  have hbd' := h'.bd
  have hl1 := comm_le1 zs ys
  have hl2 := comm_le2 zs ys
  rw [h.len] at hl1
  rw [h'.len] at hl2
  obtain ⟨C, hC⟩ : ∃ C, C = comm zs ys := ⟨_, rfl⟩
  rw [← hC] at hl1 hl2 ⊢
  have HC := Lib.hid hC; clear hC
  have hw := Lib.hid h; clear h
  have hw' := Lib.hid h'; clear h'
  go_enter Try.func20, Try.ntmps20
  go_wp2
  go_loopw [5] (fun i wr => ∃ k : Nat, k ≤ C ∧ i = .int .i64 k ∧ ∃ m, wr = w.drewN m) (fun i _ => C - (intOf i).toNat)
  case atStart => exact ⟨0, Nat.zero_le _, rfl, 0, rfl⟩
  case round =>
    obtain ⟨k, hk, rfl, m, rfl⟩ := hrel
    by_cases hlt : k < C
    · obtain ⟨ad, z, rfl, hz, z1, z2, hc⟩ := hw.out.at_ (k := k) (by omega)
      obtain ⟨ad', z', rfl, hz', z1', z2', hc'⟩ := hw'.out.at_ (k := k) (by omega)
      have he : z = z' := comm_lt zs ys k z z' hz hz' (by rw [← HC.out]; exact hlt)
      subst he
      clear hz hz'
      have hb0 : (0 : Int) ≤ (k : Int) := by omega
      have hb1 : k < n := by omega
      have hb2 : k < n' := by omega
      go_wp2
      go_quiet (fail)
      go_wp2
      go_roundw
      case rel => exact ⟨k + 1, by omega, by go_num, _, rfl⟩
      case measure => simp [intOf]; omega
    · obtain rfl : C = k := by omega
      by_cases h1 : C < n
      · by_cases h2 : C < n'
        · obtain ⟨ad, z, rfl, hz, z1, z2, hc⟩ := hw.out.at_ (k := C) (by omega)
          obtain ⟨ad', z', rfl, hz', z1', z2', hc'⟩ := hw'.out.at_ (k := C) (by omega)
          have hne : (z == z') = false := by
            rw [beq_eq_false_iff_ne]
            have HC' := HC.out
            exact comm_at zs ys z z' (by rw [← HC']; exact hz) (by rw [← HC']; exact hz')
          clear hz hz'
          have hb0 : (0 : Int) ≤ (C : Int) := by omega
          have hb1 : C < n := by omega
          have hb2 : C < n' := by omega
          go_wp2
          go_quiet (fail)
          go_wp2
          go_ret
          exact ⟨rfl, _, World.drewN_drewN _ _ _⟩
        · have hb2 : decide (C < n') = false := decide_eq_false (by omega)
          have hb1 : C < n := by omega
          go_wp2
          go_quiet (fail)
          go_wp2
          go_ret
          exact ⟨rfl, _, World.drewN_drewN _ _ _⟩
      · have hb1 : decide (C < n) = false := decide_eq_false (by omega)
        go_wp2
        go_quiet (fail)
        go_wp2
        go_ret
        exact ⟨rfl, _, World.drewN_drewN _ _ _⟩
theorem specCommon_b (A : Option Addr) (n cap : Nat) (A' : Option Addr) (n' cap' : Nat) (zs ys : List Int) (w : World) (h : IRow w A n zs) (h' : IRow w A' n' ys) :
    Calls Try.prog 20 #[.slice A n cap, .slice A' n' cap'] w fun e w' => e = .returned (.int .i64 (comm zs ys : Nat)) ∧ Below w.heap.size w w' :=
  (specCommon_any A n cap A' n' cap' zs ys w h h').mono fun _ _ ⟨he, _, hw⟩ => ⟨he, hw ▸ below_drewN _ _ _⟩

theorem fnExactCommonTerms_walk (w : World) (A : Option Addr) (n cap : Nat) (zs : List Int) (h : IRow w A n zs) (A' : Option Addr) (n' cap' : Nat) (ys : List Int) (h' : IRow w A' n' ys) :
    Calls Try.prog 7 #[.slice A n cap, .slice A' n' cap'] w fun e w' => e = .returned (.bool true) ∧ Below w.heap.size w w' := by
  by_cases hn : (1048576 : Int) < n
  · go_enter Try.func7, Try.ntmps7
    go_wp2
    go_ret
    exact ⟨rfl, Below.refl _ _⟩
  · by_cases hn' : (1048576 : Int) < n'
    · go_enter Try.func7, Try.ntmps7
      go_wp2
      go_ret
      exact ⟨rfl, Below.refl _ _⟩
    · have hr := h.2.2.1
      have hr' := h'.2.2.1
      have Hr := Lib.hid hr
      have Hr' := Lib.hid hr'
      clear hr hr'
      go_enter Try.func7, Try.ntmps7
      go_wp2_with fail
      refine (toInt64S_any A n cap zs _ h (by omega)).mono ?_
      rintro e w1 ⟨A1, c1, rfl, ho1, hb1⟩
      obtain ⟨hc1, hf1, hs1⟩ := keepc hb1
      have hB1 : Below w.heap.size w w1 := Below.trans (by go_grown) (hb1.mono (by first | exact Nat.le_refl _ | (simp only [World.size_alloc]; omega)))
      try simp only [World.size_alloc] at hs1
      have r1 := IRow.of_own ho1 (by omega) Hr.out
      go_wp2_with fail
      refine (toInt64S_any A' n' cap' ys _ (h'.below hB1) (by omega)).mono ?_
      rintro e w2 ⟨A2, c2, rfl, ho2, hb2⟩
      obtain ⟨hc2, hf2, hs2⟩ := keepc hb2
      have hB2 : Below w.heap.size w w2 := hB1.trans (hb2.mono (by have := hB1.size; omega))
      have r2 := IRow.of_own ho2 (by omega) Hr'.out
      replace r1 := r1.below hb2
      go_wp2_with fail
      refine (specCommon_b A1 n c1 A2 n' c2 zs ys _ r1 r2).mono ?_
      rintro e w3 ⟨rfl, hb3⟩
      obtain ⟨hc3, hf3, hs3⟩ := keepc hb3
      have hB3 : Below w.heap.size w w3 := hB2.trans (hb3.mono (by have := hB2.size; omega))
      go_wp2_with fail
      refine (toInt64S_any A n cap zs _ (h.below hB3) (by omega)).mono ?_
      rintro e w4 ⟨A4, c4, rfl, ho4, hb4⟩
      obtain ⟨hc4, hf4, hs4⟩ := keepc hb4
      have hB4 : Below w.heap.size w w4 := hB3.trans (hb4.mono (by have := hB3.size; omega))
      have r4 := IRow.of_own ho4 (by omega) Hr.out
      go_wp2_with fail
      refine (toInt64S_any A' n' cap' ys _ (h'.below hB4) (by omega)).mono ?_
      rintro e w5 ⟨A5, c5, rfl, ho5, hb5⟩
      obtain ⟨hc5, hf5, hs5⟩ := keepc hb5
      have hB5 : Below w.heap.size w w5 := hB4.trans (hb5.mono (by have := hB4.size; omega))
      have r5 := IRow.of_own ho5 (by omega) Hr'.out
      replace r4 := r4.below hb5
      go_wp2_with fail
      refine (implCommon_b A4 n c4 A5 n' c5 zs ys _ r4 r5).mono ?_
      rintro e w6 ⟨rfl, hb6⟩
      obtain ⟨hc6, hf6, hs6⟩ := keepc hb6
      have hB6 : Below w.heap.size w w6 := hB5.trans (hb6.mono (by have := hB5.size; omega))
      replace r4 := r4.below hb6
      replace r5 := r5.below hb6
      go_wp2_with fail
      refine (toInt64S_any A n cap zs _ (h.below hB6) (by omega)).mono ?_
      rintro e w7 ⟨A7, c7, rfl, ho7, hb7⟩
      obtain ⟨hc7, hf7, hs7⟩ := keepc hb7
      have hB7 : Below w.heap.size w w7 := hB6.trans (hb7.mono (by have := hB6.size; omega))
      have r7 := IRow.of_own ho7 (by omega) Hr.out
      replace r4 := r4.below hb7
      replace r5 := r5.below hb7
      go_wp2_with fail
      refine (eqInt64S_same A4 n c4 A7 c7 zs _ r4 r7).mono ?_
      rintro e w8 ⟨rfl, hb8⟩
      obtain ⟨hc8, hf8, hs8⟩ := keepc hb8
      have hB8 : Below w.heap.size w w8 := hB7.trans (hb8.mono (by have := hB7.size; omega))
      replace r5 := r5.below hb8
      go_wp2_with fail
      refine (toInt64S_any A' n' cap' ys _ (h'.below hB8) (by omega)).mono ?_
      rintro e w9 ⟨A9, c9, rfl, ho9, hb9⟩
      obtain ⟨hc9, hf9, hs9⟩ := keepc hb9
      have hB9 : Below w.heap.size w w9 := hB8.trans (hb9.mono (by have := hB8.size; omega))
      have r9 := IRow.of_own ho9 (by omega) Hr'.out
      replace r5 := r5.below hb9
      go_wp2_with fail
      refine (eqInt64S_same A5 n' c5 A9 c9 ys _ r5 r9).mono ?_
      rintro e w10 ⟨rfl, hb10⟩
      obtain ⟨hc10, hf10, hs10⟩ := keepc hb10
      have hB10 : Below w.heap.size w w10 := hB9.trans (hb10.mono (by have := hB9.size; omega))
      go_wp2_with fail
      go_ret
      exact ⟨rfl, hB10⟩
end Go.Proofs.Ytbchokafjnehoaa
