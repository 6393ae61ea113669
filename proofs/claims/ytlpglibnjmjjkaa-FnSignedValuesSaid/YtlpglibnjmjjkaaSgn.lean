/-
  Contracts of the tests of lists of terms with signs; the walk of the law FnExactValidSigned.
  No condition but those of the law's own text.
-/
import Derived.Test.YtlpglibnjmjjkaaProg
import Derived.Test.YtlpglibnjmjjkaaMem
import Derived.Test.YtlpglibnjmjjkaaBasic
import Derived.Test.YtlpglibnjmjjkaaAllk
import Derived.Test.YtlpglibnjmjjkaaSig
import Derived.Handy
namespace Go.Proofs.Ytlpglibnjmjjkaa
open Go.RowKit
set_option linter.unusedVariables false

/-- A term with a sign, behind the first place. -/
def psE (_ : Nat) (t : Int × Int) : Bool := (t.1 == 1 || t.1 == -1) && inB t.2 1 1000000000
/-- A term with a sign at its place. -/
def sgnE (k : Nat) (t : Int × Int) : Bool := if k = 0 then t.1 == 1 && inB t.2 (-1000000000) 1000000000 else psE k t
/-- A list is one of terms with signs. -/
def sgnB (zs : List (Int × Int)) : Bool := inB (zs.length : Int) 1 60 && allK sgnE 0 zs
def FoundB (V : Bool) (w : World) (e : Ending) (w' : World) : Prop := ∃ r : Int, e = .returned (.int .i64 r) ∧ (V = true → r = -1) ∧ (V = false → 0 ≤ r) ∧ Below w.heap.size w w'

theorem sgn_tail {zs : List (Int × Int)} {y : Int} (h0 : zs[0]? = some (1, y)) (hl : inB (zs.length : Int) 1 60 = true) (hy : inB y (-1000000000) 1000000000 = true) : sgnB zs = allK psE 0 zs.tail := by
  unfold sgnB
  rw [hl, Bool.true_and]
  match zs, h0 with
  | t :: r, h0 =>
    simp at h0; subst h0
    show (sgnE 0 (1, y) && allK sgnE 1 r) = allK psE 0 r
    rw [show sgnE 0 (1, y) = true from by unfold sgnE; rw [if_pos rfl]; simpa using hy, Bool.true_and]
    cases hp : allK psE 0 r
    · cases ht : allK sgnE 1 r
      · rfl
      · exfalso
        have : allK psE 0 r = true := allK_t psE r 0 fun k z hk => by
          have := allK_at sgnE r 1 k z ht hk
          unfold sgnE at this
          rw [if_neg (by omega)] at this
          exact this
        rw [this] at hp; cases hp
    · exact allK_t sgnE r 1 fun k z hk => by
        have := allK_at psE r 0 k z hp hk
        unfold sgnE
        rw [if_neg (by omega)]
        exact this
theorem sgn_bad {zs : List (Int × Int)} {k : Nat} {t : Int × Int} (h : zs[k]? = some t) (hf : sgnE k t = false) : sgnB zs = false := by
  unfold sgnB; rw [allK_f sgnE zs 0 k t h (by rw [Nat.zero_add]; exact hf)]; simp

theorem vs_closure (x y : Int) (w : World) : Calls Try.prog 50 #[.agg #[.int .i64 x, .int .i64 y]] w fun e w' => e = .returned (.bool (!psE 0 (x, y))) ∧ Below w.heap.size w w' := by
  by_cases h1 : x = 1
  · subst h1
    rw [show psE 0 (1, y) = inB y 1 1000000000 from by unfold psE; simp]
    go_enter Try.func50, Try.ntmps50
    go_wp2_with (go_at_call 48; refine (within_any _ _ _ _).mono ?_; rintro e w1 ⟨rfl, rfl⟩)
    go_ret
    exact ⟨rfl, by go_grown⟩
  · by_cases h2 : x = -1
    · subst h2
      rw [show psE 0 (-1, y) = inB y 1 1000000000 from by unfold psE; simp]
      clear h1
      go_enter Try.func50, Try.ntmps50
      go_wp2_with (go_at_call 48; refine (within_any _ _ _ _).mono ?_; rintro e w1 ⟨rfl, rfl⟩)
      go_ret
      exact ⟨rfl, by go_grown⟩
    · rw [show psE 0 (x, y) = false from by unfold psE; simp [h1, h2]]
      have e1 : (x != 1) = true := by rw [bne_iff_ne]; exact h1
      have e2 : (x != -1) = true := by rw [bne_iff_ne]; exact h2
      clear h1 h2
      go_enter Try.func50, Try.ntmps50
      go_wp2_with (go_at_call 48; refine (within_any _ _ _ _).mono ?_; rintro e w1 ⟨rfl, rfl⟩)
      go_ret
      exact ⟨rfl, by go_grown⟩
theorem vs_index (A : Option Addr) (n cap : Nat) (zs : List (Int × Int)) (w : World) (h : PRow w A n zs) :
    Calls Try.prog 69 #[.slice A n cap, .func (.func 50) #[] #[]] w (FoundB (allK psE 0 zs) w) := by
  have hbd := h.bd
  have Hl := Lib.hid h.len
  have hw := Lib.hid h; clear h
  go_enter Try.func69, Try.ntmps69
  go_wp2
  go_loopw [8] (fun i wr => ∃ k : Nat, k ≤ n ∧ i = .int .i64 k ∧ Hid (Upto psE zs k) ∧ Below w.heap.size w wr) (fun i _ => n - (intOf i).toNat)
  case atStart => exact ⟨0, Nat.zero_le _, rfl, Upto.zero _ _, Below.refl _ _⟩
  case round =>
    obtain ⟨k, hk, rfl, HU, hb⟩ := hrel
    by_cases hlt : k < n
    · obtain ⟨bb, o, x, y, rfl, hz, _, _, _, _, hc1, hc2⟩ := (hw.out.below hb).at_ hlt
      have HZ := Lib.hid hz; clear hz
      cases hp : psE 0 (x, y)
      · go_wp2_with fail
        refine (vs_closure x y _).mono ?_
        rintro e w2 ⟨rfl, hb2⟩
        go_wp2_with fail
        go_ret
        exact ⟨_, rfl, (fun hV => by rw [allK_f psE zs 0 k _ HZ.out hp] at hV; cases hV), (fun _ => by omega), hb.trans (hb2.mono hb.size)⟩
      · go_wp2_with fail
        refine (vs_closure x y _).mono ?_
        rintro e w2 ⟨rfl, hb2⟩
        have hb3 := hb.trans (hb2.mono hb.size)
        go_wp2_with fail
        go_roundw
        case rel => exact ⟨k + 1, by omega, by go_num, HU.out.step HZ.out hp, hb3⟩
        case measure => simp [intOf]; omega
    · obtain rfl : n = k := by omega
      go_wp2
      go_ret
      have hV := HU.out.all (by have := Hl.out; omega)
      exact ⟨_, rfl, (fun _ => rfl), (fun h => (by rw [hV] at h; cases h)), hb⟩
theorem vs_contains (A : Option Addr) (n cap : Nat) (zs : List (Int × Int)) (w : World) (h : PRow w A n zs) :
    Calls Try.prog 49 #[.slice A n cap, .func (.func 50) #[] #[]] w fun e w' => e = .returned (.bool (!allK psE 0 zs)) ∧ Below w.heap.size w w' := by
  cases hV : allK psE 0 zs
  · go_enter Try.func49, Try.ntmps49
    go_wp2_with fail
    refine (vs_index A n cap zs _ h).mono ?_
    rintro e w1 ⟨r, rfl, _, h2, hb⟩
    have h3 := h2 hV
    clear h2
    go_wp2_with fail
    go_ret
    exact ⟨rfl, hb⟩
  · go_enter Try.func49, Try.ntmps49
    go_wp2_with fail
    refine (vs_index A n cap zs _ h).mono ?_
    rintro e w1 ⟨r, rfl, h1, _, hb⟩
    have h3 := h1 hV
    subst h3
    clear h1
    go_wp2_with fail
    go_ret
    exact ⟨rfl, hb⟩

theorem sgn_in {l : List (Int × Int)} (h : sgnB l = true) : 1 ≤ l.length ∧ l.length ≤ 60 ∧ ∀ z ∈ l, (z.1 = 1 ∨ z.1 = -1) ∧ -1000000000 ≤ z.2 ∧ z.2 ≤ 1000000000 := by
  unfold sgnB at h
  rw [Bool.and_eq_true, inB_iff] at h
  obtain ⟨⟨h1, h2⟩, h3⟩ := h
  refine ⟨by omega, by omega, fun z hz => ?_⟩
  obtain ⟨k, hk⟩ := List.mem_iff_getElem?.1 hz
  have hh := allK_at sgnE l 0 k z h3 hk
  unfold sgnE at hh
  split at hh
  · rw [Bool.and_eq_true, beq_iff_eq, inB_iff] at hh
    exact ⟨.inl hh.1, hh.2⟩
  · unfold psE at hh
    rw [Bool.and_eq_true, Bool.or_eq_true, beq_iff_eq, beq_iff_eq, inB_iff] at hh
    exact ⟨hh.1, by omega, hh.2.2⟩
theorem PRow.tail {w : World} {b o n : Nat} {zs : List (Int × Int)} (h : PRow w (some ⟨b, o, none⟩) n zs) (hn : 1 ≤ n) : PRow w (some ⟨b, o + 2, none⟩) (n - 1) zs.tail := by
  refine ⟨by rw [List.length_tail, h.1], by have := h.2.1; omega, fun z hz => h.2.2.1 z (List.mem_of_mem_tail hz), ?_⟩
  have hd := h.2.2.2.drop_ 2
  have e : (prs zs).drop 2 = prs zs.tail := by
    match zs with
    | [] => rfl
    | t :: r => rfl
  rw [e] at hd
  exact hd

set_option maxHeartbeats 1600000 in
theorem validSigned_any (A : Option Addr) (n cap : Nat) (zs : List (Int × Int)) (w : World) (h : PRow w A n zs) (hcap : n ≤ cap) :
    Calls Try.prog 24 #[.slice A n cap] w fun e w' => e = .returned (.bool (sgnB zs)) ∧ Below w.heap.size w w' := by
  have hbd := h.bd
  have hlen := h.len
  by_cases hn : 1 ≤ n ∧ n ≤ 60
  · obtain ⟨hn1, hn2⟩ := hn
    obtain ⟨bb, o, x, y, rfl, hz, _, _, _, _, hc1, hc2⟩ := h.at_ (k := 0) (by omega)
    have hi : inB (n : Int) 1 60 = true := inB_t (by omega) (by omega)
    have hi' : inB (zs.length : Int) 1 60 = true := by rw [hlen]; exact hi
    simp only [Nat.zero_mul, Nat.add_zero] at hc1 hc2
    by_cases hx : x = 1
    · subst hx
      cases hb : inB y (-1000000000) 1000000000
      · rw [sgn_bad hz (by unfold sgnE; rw [if_pos rfl]; simp [hb])]
        clear hz hlen hi'
        go_enter Try.func24, Try.ntmps24
        go_wp2_with (first | (go_at_call 34; go_in) | (go_at_call 48; refine (within_any _ _ _ _).mono ?_; rintro e w1 ⟨rfl, rfl⟩))
        go_ret
        exact ⟨rfl, Below.refl _ _⟩
      · rw [sgn_tail hz hi' hb]
        have ht := h.tail hn1
        clear hz hlen hi'
        by_cases hc : cap = 1
        · obtain rfl : n = 1 := by omega
          subst hc
          have HT : Hid (zs.tail = []) := List.eq_nil_of_length_eq_zero (by rw [ht.len])
          have ht' : PRow w (some ⟨bb, o, none⟩) 0 zs.tail := by rw [HT.out]; exact ⟨rfl, by omega, by simp, Rd.nil⟩
          clear ht h
          go_enter Try.func24, Try.ntmps24
          go_wp2_with (first | (go_at_call 34; go_in) | (go_at_call 48; refine (within_any _ _ _ _).mono ?_; rintro e w1 ⟨rfl, rfl⟩))
          refine (vs_contains _ 0 _ zs.tail _ ht').mono ?_
          rintro e w1 ⟨rfl, hb1⟩
          go_wp2_with fail
          go_ret
          exact ⟨ret_bool (by simp), hb1⟩
        · clear h
          go_enter Try.func24, Try.ntmps24
          go_wp2_with (first | (go_at_call 34; go_in) | (go_at_call 48; refine (within_any _ _ _ _).mono ?_; rintro e w1 ⟨rfl, rfl⟩))
          refine (vs_contains _ (n - 1) _ zs.tail _ ht).mono ?_
          rintro e w1 ⟨rfl, hb1⟩
          go_wp2_with fail
          go_ret
          exact ⟨ret_bool (by simp), hb1⟩
    · rw [sgn_bad hz (by unfold sgnE; rw [if_pos rfl]; simp [hx])]
      have e1 : (x != 1) = true := by rw [bne_iff_ne]; exact hx
      clear hz hlen hi' hx
      go_enter Try.func24, Try.ntmps24
      go_wp2_with (first | (go_at_call 34; go_in) | (go_at_call 48; refine (within_any _ _ _ _).mono ?_; rintro e w1 ⟨rfl, rfl⟩))
      go_ret
      exact ⟨rfl, Below.refl _ _⟩
  · rw [show sgnB zs = false from by unfold sgnB; rw [hlen, inB_f (by omega)]; rfl]
    have hi : inB (n : Int) 1 60 = false := inB_f (by omega)
    clear hn hlen
    go_enter Try.func24, Try.ntmps24
    go_wp2_with (first | (go_at_call 34; go_in) | (go_at_call 48; refine (within_any _ _ _ _).mono ?_; rintro e w1 ⟨rfl, rfl⟩))
    go_ret
    exact ⟨rfl, Below.refl _ _⟩

set_option maxHeartbeats 3200000 in
theorem l04Ok_any (A : Option Addr) (n cap : Nat) (zs : List (Int × Int)) (w : World) (h : PRow w A n zs) :
    Calls Try.prog 27 #[.slice A n cap] w fun e w' => e = .returned (.bool (sgnB zs)) ∧ w = w' := by
  have hbd := h.bd
  have hlen := h.len
  have Hl := Lib.hid hlen
  obtain ⟨V, hV⟩ : ∃ V, V = sgnB zs := ⟨_, rfl⟩
  rw [← hV]
  have HV := Lib.hid hV; clear hV hlen
  have hw := Lib.hid h; clear h
  go_enter Try.func27, Try.ntmps27
  go_wp2
  go_loop [3] (fun i => ∃ k : Nat, k ≤ n ∧ i = .int .i64 k ∧ Hid (Upto sgnE zs k)) (fun i => n - (intOf i).toNat)
  case atStart => exact ⟨0, Nat.zero_le _, rfl, Upto.zero _ _⟩
  case round =>
    obtain ⟨k, hk, rfl, HU⟩ := hrel
    by_cases hlt : k < n
    · obtain ⟨bb, o, x, y, rfl, hz, _, _, _, _, hc1, hc2⟩ := hw.out.at_ hlt
      have HZ := Lib.hid hz; clear hz
      rcases (by omega : k ≤ 0 ∨ 1 ≤ k) with a1 | a1
      · have hk0 : k = 0 := by omega
        have hd1 : w.cell? ⟨bb, o, none⟩ = some (.int .i64 x) := by rw [hk0] at hc1; simpa using hc1
        have hd2 : w.cell? ⟨bb, o + 1, none⟩ = some (.int .i64 y) := by rw [hk0] at hc2; simpa using hc2
        have HE : Hid (sgnE k (x, y) = (x == 1 && inB y (-1000000000) 1000000000)) := by show sgnE k (x, y) = _; unfold sgnE; rw [if_pos hk0]
        clear hk0
        cases hb : inB y (-1000000000) 1000000000
        · have HF : Hid (sgnB zs = false) := sgn_bad HZ.out (by rw [HE.out, hb]; simp)
          go_wp2_with (go_at_call 52; refine (l00In_any _ _ _ _).mono ?_; rintro e w1 ⟨rfl, rfl⟩)
          go_ret
          exact ⟨ret_bool (by rw [HV.out, HF.out]), rfl⟩
        · by_cases hx : x = 1
          · have HN := Lib.hid (HU.out.step HZ.out (by rw [HE.out, hb, hx]; rfl))
            have hx1 : x ≤ 1 := by omega
            have hx2 : 1 ≤ x := by omega
            clear hx
            go_wp2_with (go_at_call 52; refine (l00In_any _ _ _ _).mono ?_; rintro e w1 ⟨rfl, rfl⟩)
            go_round
            case rel => exact ⟨k + 1, by omega, by go_num, HN⟩
            case measure => simp [intOf]; omega
          · have HF : Hid (sgnB zs = false) := sgn_bad HZ.out (by rw [HE.out, show (x == 1) = false from by rw [beq_eq_false_iff_ne]; exact hx]; rfl)
            have e1 : (x != 1) = true := by rw [bne_iff_ne]; exact hx
            clear hx
            go_wp2_with (go_at_call 52; refine (l00In_any _ _ _ _).mono ?_; rintro e w1 ⟨rfl, rfl⟩)
            go_ret
            exact ⟨ret_bool (by rw [HV.out, HF.out]), rfl⟩
      · have HE : Hid (sgnE k (x, y) = ((x == 1 || x == -1) && inB y 1 1000000000)) := by show sgnE k (x, y) = _; unfold sgnE; rw [if_neg (by omega)]; rfl
        cases hb : inB y 1 1000000000
        · have HF : Hid (sgnB zs = false) := sgn_bad HZ.out (by rw [HE.out, hb]; simp)
          go_wp2_with (go_at_call 52; refine (l00In_any _ _ _ _).mono ?_; rintro e w1 ⟨rfl, rfl⟩)
          go_ret
          exact ⟨ret_bool (by rw [HV.out, HF.out]), rfl⟩
        · by_cases hx : x = 1
          · have HN := Lib.hid (HU.out.step HZ.out (by rw [HE.out, hb, hx]; rfl))
            have hx1 : x ≤ 1 := by omega
            have hx2 : 1 ≤ x := by omega
            clear hx
            go_wp2_with (go_at_call 52; refine (l00In_any _ _ _ _).mono ?_; rintro e w1 ⟨rfl, rfl⟩)
            go_round
            case rel => exact ⟨k + 1, by omega, by go_num, HN⟩
            case measure => simp [intOf]; omega
          · by_cases hx' : x = -1
            · have HN := Lib.hid (HU.out.step HZ.out (by rw [HE.out, hb, hx']; rfl))
              have hx1 : x ≤ -1 := by omega
              have hx2 : -1 ≤ x := by omega
              have e1 : (x != 1) = true := by rw [bne_iff_ne]; exact hx
              clear hx hx'
              go_wp2_with (go_at_call 52; refine (l00In_any _ _ _ _).mono ?_; rintro e w1 ⟨rfl, rfl⟩)
              go_round
              case rel => exact ⟨k + 1, by omega, by go_num, HN⟩
              case measure => simp [intOf]; omega
            · have HF : Hid (sgnB zs = false) := sgn_bad HZ.out (by rw [HE.out, show (x == 1) = false from by (rw [beq_eq_false_iff_ne]; exact hx), show (x == -1) = false from by (rw [beq_eq_false_iff_ne]; exact hx')]; rfl)
              have e1 : (x != 1) = true := by rw [bne_iff_ne]; exact hx
              have e2 : (x != -1) = true := by rw [bne_iff_ne]; exact hx'
              clear hx hx'
              go_wp2_with (go_at_call 52; refine (l00In_any _ _ _ _).mono ?_; rintro e w1 ⟨rfl, rfl⟩)
              go_ret
              exact ⟨ret_bool (by rw [HV.out, HF.out]), rfl⟩
    · obtain rfl : n = k := by omega
      have HA : Hid (allK sgnE 0 zs = true) := HU.out.all (by have := Hl.out; omega)
      go_wp2_with (go_at_call 52; refine (l00In_any _ _ _ _).mono ?_; rintro e w1 ⟨rfl, rfl⟩)
      go_ret
      exact ⟨ret_bool (by rw [HV.out]; unfold sgnB; rw [HA.out, Bool.and_true, Hl.out]), rfl⟩
end Go.Proofs.Ytlpglibnjmjjkaa
