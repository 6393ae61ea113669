/-
  Contracts of the tests of lists of terms, in the program and in the reference; the walk of the law FnExactValidTerms.
  No condition but those of the law's own text.
-/
import Derived.Test.YtlpglibnjmjjkaaProg
import Derived.Test.YtlpglibnjmjjkaaMem
import Derived.Test.YtlpglibnjmjjkaaBasic
import Derived.Test.YtlpglibnjmjjkaaAllk
import Derived.Test.YtlpglibnjmjjkaaInts
import Derived.Handy
namespace Go.Proofs.Ytlpglibnjmjjkaa
open Go.RowKit
set_option linter.unusedVariables false

/-- A positive term. -/
def posE (k : Nat) (z : Int) : Bool := inB z 1 1000000000
/-- What the search for a bad element hands back: -1 if there is none, else a place. -/
def Found (V : Bool) (w : World) (e : Ending) (w' : World) : Prop := ∃ r : Int, e = .returned (.int .i64 r) ∧ (V = true → r = -1) ∧ (V = false → 0 ≤ r) ∧ w = w'

theorem vt_closure (z : Int) (w : World) : Calls Try.prog 76 #[.int .i64 z] w fun e w' => e = .returned (.bool (!inB z 1 1000000000)) ∧ w = w' := by
  go_enter Try.func76, Try.ntmps76
  go_wp2_with (go_at_call 48; refine (within_any _ _ _ _).mono ?_; rintro e w1 ⟨rfl, rfl⟩)
  go_ret
  exact ⟨rfl, rfl⟩
theorem vt_index (A : Option Addr) (n cap : Nat) (zs : List Int) (w : World) (h : IRow w A n zs) :
    Calls Try.prog 77 #[.slice A n cap, .func (.func 76) #[] #[]] w (Found (allK posE 0 zs) w) := by
  have hbd := h.bd
  have Hl := Lib.hid h.len
  have hw := Lib.hid h; clear h
  go_enter Try.func77, Try.ntmps77
  go_wp2
  go_loop [5, 8] (fun j i => ∃ k : Nat, k ≤ n ∧ i = .int .i64 k ∧ Hid (Upto posE zs k)) (fun _ i => n - (intOf i).toNat)
  case atStart => exact ⟨0, Nat.zero_le _, rfl, Upto.zero _ _⟩
  case round =>
    obtain ⟨k, hk, rfl, HU⟩ := hrel
    by_cases hlt : k < n
    · obtain ⟨ad, z, rfl, hz, z1, z2, hc⟩ := hw.out.at_ hlt
      have HZ := Lib.hid hz; clear hz
      cases hb : inB z 1 1000000000
      · go_wp2_with (go_at_call 76; refine (vt_closure _ _).mono ?_; rintro e w1 ⟨rfl, rfl⟩)
        go_ret
        exact ⟨_, rfl, (fun hV => by rw [allK_f posE zs 0 k z HZ.out (by rw [Nat.zero_add]; exact hb)] at hV; cases hV), (fun _ => by omega), rfl⟩
      · go_wp2_with (go_at_call 76; refine (vt_closure _ _).mono ?_; rintro e w1 ⟨rfl, rfl⟩)
        go_round
        case rel => exact ⟨k + 1, by omega, by go_num, HU.out.step HZ.out hb⟩
        case measure => simp [intOf]; omega
    · obtain rfl : n = k := by omega
      go_wp2
      go_ret
      have hV := HU.out.all (by have := Hl.out; omega)
      exact ⟨_, rfl, (fun _ => rfl), (fun h => (by rw [hV] at h; cases h)), rfl⟩
theorem vt_contains (A : Option Addr) (n cap : Nat) (zs : List Int) (w : World) (h : IRow w A n zs) :
    Calls Try.prog 75 #[.slice A n cap, .func (.func 76) #[] #[]] w fun e w' => e = .returned (.bool (!allK posE 0 zs)) ∧ w = w' := by
  cases hV : allK posE 0 zs
  · go_enter Try.func75, Try.ntmps75
    go_wp2_with fail
    refine (vt_index A n cap zs _ h).mono ?_
    rintro e w1 ⟨r, rfl, _, h2, rfl⟩
    have h3 := h2 hV
    clear h2
    go_wp2_with fail
    go_ret
    exact ⟨rfl, rfl⟩
  · go_enter Try.func75, Try.ntmps75
    go_wp2_with fail
    refine (vt_index A n cap zs _ h).mono ?_
    rintro e w1 ⟨r, rfl, h1, _, rfl⟩
    have h3 := h1 hV
    subst h3
    clear h1
    go_wp2_with fail
    go_ret
    exact ⟨rfl, rfl⟩

/-- The row behind its first element. -/
theorem IRow.tail {w : World} {ad : Addr} {n : Nat} {zs : List Int} (h : IRow w (some ad) n zs) (hn : 1 ≤ n) (c : Nat) (hc : n ≤ c) : IRow w (if c = 1 then some ad else some (ad.add 1)) (n - 1) zs.tail := by
  refine ⟨by rw [List.length_tail, h.1], by have := h.2.1; omega, fun z hz => h.2.2.1 z (List.mem_of_mem_tail hz), ?_⟩
  have hd := h.2.2.2.drop_ 1
  rw [← List.map_drop, List.drop_one] at hd
  split
  · have : zs.tail = [] := List.eq_nil_of_length_eq_zero (by rw [List.length_tail, h.1]; omega)
    rw [this]
    exact Rd.nil
  · exact hd

set_option maxHeartbeats 1000000 in
theorem validTerms_any (A : Option Addr) (n cap : Nat) (zs : List Int) (w : World) (h : IRow w A n zs) (hcap : n ≤ cap) :
    Calls Try.prog 67 #[.slice A n cap] w fun e w' => e = .returned (.bool (trmB zs)) ∧ w = w' := by
  have hbd := h.bd
  have hlen := h.len
  by_cases hn : 1 ≤ n ∧ n ≤ 60
  · obtain ⟨hn1, hn2⟩ := hn
    obtain ⟨ad, z, rfl, hz, z1, z2, hc⟩ := h.at_ (k := 0) (by omega)
    rw [addr_nil] at hc
    have hi : inB (n : Int) 1 60 = true := inB_t (by omega) (by omega)
    cases hb : inB z (-1000000000) 1000000000
    · rw [show trmB zs = false from by unfold trmB; rw [allK_f trmE zs 0 0 z hz hb]; simp]
      clear hz hlen
      go_enter Try.func67, Try.ntmps67
      go_wp2_with (first | (go_at_call 74; go_in) | (go_at_call 48; refine (within_any _ _ _ _).mono ?_; rintro e w1 ⟨rfl, rfl⟩))
      go_ret
      exact ⟨rfl, rfl⟩
    · have ht := h.tail hn1 cap hcap
      have hv : trmB zs = allK posE 0 zs.tail := by
        unfold trmB
        rw [hlen, hi, Bool.true_and]
        match zs, hz with
        | y :: r, hz =>
          simp at hz; subst hz
          show (trmE 0 y && allK trmE 1 r) = allK posE 0 r
          rw [show trmE 0 y = true from hb, Bool.true_and]
          cases hp : allK posE 0 r
          · cases ht : allK trmE 1 r
            · rfl
            · exfalso
              have : allK posE 0 r = true := allK_t posE r 0 fun k z hk => by
                have := allK_at trmE r 1 k z ht hk
                unfold trmE at this
                rw [if_neg (by omega)] at this
                exact this
              rw [this] at hp; cases hp
          · exact allK_t trmE r 1 fun k z hk => by
              have := allK_at posE r 0 k z hp hk
              unfold trmE
              rw [if_neg (by omega)]
              exact this
      rw [hv]
      clear hv hz hlen h
      by_cases hc1 : cap = 1
      · obtain rfl : n = 1 := by omega
        subst hc1
        have ht' : IRow w (some ad) 0 zs.tail := by simpa using ht
        clear ht
        go_enter Try.func67, Try.ntmps67
        go_wp2_with (first | (go_at_call 74; go_in) | (go_at_call 48; refine (within_any _ _ _ _).mono ?_; rintro e w1 ⟨rfl, rfl⟩) | (go_at_call 75; refine (vt_contains (some ad) 0 _ zs.tail _ ht').mono ?_; rintro e w1 ⟨rfl, rfl⟩))
        go_ret
        exact ⟨ret_bool (by simp), rfl⟩
      · have ht' : IRow w (some ⟨ad.block, ad.off + 1, none⟩) (n - 1) zs.tail := by rw [if_neg hc1] at ht; exact ht
        clear ht
        go_enter Try.func67, Try.ntmps67
        go_wp2_with (first | (go_at_call 74; go_in) | (go_at_call 48; refine (within_any _ _ _ _).mono ?_; rintro e w1 ⟨rfl, rfl⟩) | (go_at_call 75; refine (vt_contains (some ⟨ad.block, ad.off + 1, none⟩) (n - 1) _ zs.tail _ ht').mono ?_; rintro e w1 ⟨rfl, rfl⟩))
        go_ret
        exact ⟨ret_bool (by simp), rfl⟩
  · rw [show trmB zs = false from by unfold trmB; rw [hlen, inB_f (by omega)]; rfl]
    have hi : inB (n : Int) 1 60 = false := inB_f (by omega)
    clear hn hlen
    go_enter Try.func67, Try.ntmps67
    go_wp2_with (first | (go_at_call 74; go_in) | (go_at_call 48; refine (within_any _ _ _ _).mono ?_; rintro e w1 ⟨rfl, rfl⟩))
    go_ret
    exact ⟨rfl, rfl⟩

set_option maxHeartbeats 1600000 in
theorem l03Ok_any (A : Option Addr) (n cap : Nat) (zs : List Int) (w : World) (h : IRow w A n zs) :
    Calls Try.prog 64 #[.slice A n cap] w fun e w' => e = .returned (.bool (trmB zs)) ∧ w = w' := by
  have hbd := h.bd
  have hlen := h.len
  have Hl := Lib.hid hlen
  have hp : trmB zs = (inB (n : Int) 1 60 && allK trmE 0 zs) := by unfold trmB; rw [hlen]
  rw [hp]; clear hp
  clear hlen
  have hw := Lib.hid h; clear h
  obtain ⟨V, hV⟩ : ∃ V, V = allK trmE 0 zs := ⟨_, rfl⟩
  rw [← hV]
  have HV := Lib.hid hV; clear hV
  go_enter Try.func64, Try.ntmps64
  go_wp2
  go_loop [3] (fun i => ∃ k : Nat, k ≤ n ∧ i = .int .i64 k ∧ Hid (Upto trmE zs k)) (fun i => n - (intOf i).toNat)
  case atStart => exact ⟨0, Nat.zero_le _, rfl, Upto.zero _ _⟩
  case round =>
    obtain ⟨k, hk, rfl, HU⟩ := hrel
    by_cases hlt : k < n
    · obtain ⟨ad, z, rfl, hz, z1, z2, hc⟩ := hw.out.at_ hlt
      have HZ := Lib.hid hz; clear hz
      rcases (by omega : k ≤ 0 ∨ 1 ≤ k) with a1 | a1
      · have he : trmE k z = inB z (-1000000000) 1000000000 := by unfold trmE; rw [(if_pos (by omega))]
        have He := Lib.hid he; clear he
        try have hc0 : w.cell? ad = some (.int .i64 z) := by (have h0 : k = 0 := by omega); rw [h0, addr_nil] at hc; exact hc
        cases hb : inB z (-1000000000) 1000000000
        · go_wp2_with (go_at_call 52; refine (l00In_any _ _ _ _).mono ?_; rintro e w1 ⟨rfl, rfl⟩)
          go_ret
          exact ⟨ret_bool (by rw [HV.out, allK_f _ zs 0 k z HZ.out (by rw [Nat.zero_add, He.out]; exact hb)]; simp), rfl⟩
        · go_wp2_with (go_at_call 52; refine (l00In_any _ _ _ _).mono ?_; rintro e w1 ⟨rfl, rfl⟩)
          go_round
          case rel => exact ⟨k + 1, by omega, by go_num, HU.out.step HZ.out (by rw [He.out]; exact hb)⟩
          case measure => simp [intOf]; omega
      · have he : trmE k z = inB z 1 1000000000 := by unfold trmE; rw [(if_neg (by omega))]
        have He := Lib.hid he; clear he
        try have hc0 : w.cell? ad = some (.int .i64 z) := by (have h0 : k = 0 := by omega); rw [h0, addr_nil] at hc; exact hc
        cases hb : inB z 1 1000000000
        · go_wp2_with (go_at_call 52; refine (l00In_any _ _ _ _).mono ?_; rintro e w1 ⟨rfl, rfl⟩)
          go_ret
          exact ⟨ret_bool (by rw [HV.out, allK_f _ zs 0 k z HZ.out (by rw [Nat.zero_add, He.out]; exact hb)]; simp), rfl⟩
        · go_wp2_with (go_at_call 52; refine (l00In_any _ _ _ _).mono ?_; rintro e w1 ⟨rfl, rfl⟩)
          go_round
          case rel => exact ⟨k + 1, by omega, by go_num, HU.out.step HZ.out (by rw [He.out]; exact hb)⟩
          case measure => simp [intOf]; omega
    · obtain rfl : n = k := by omega
      go_wp2_with (go_at_call 52; refine (l00In_any _ _ _ _).mono ?_; rintro e w1 ⟨rfl, rfl⟩)
      go_ret
      exact ⟨ret_bool (by rw [HV.out, HU.out.all (by have := Hl.out; omega), Bool.and_true]), rfl⟩

end Go.Proofs.Ytlpglibnjmjjkaa
