/-
  The walk of the law FnExactIsName: it returns true.
  No condition but those of the law's own text.
-/
import Derived.Test.YtbchokafjnehoaaProg
import Derived.Test.YtbchokafjnehoaaMem
import Derived.Test.YtbchokafjnehoaaBasic
import Derived.Test.YtbchokafjnehoaaAllk
import Derived.Handy
namespace Go.Proofs.Ytbchokafjnehoaa
open Go.RowKit
set_option linter.unusedVariables false

theorem implSmall_any (c : Int) (w : World) : Calls Try.prog 47 #[.int .u8 c] w fun e w' => e = .returned (.bool (inB c 97 122)) ∧ w = w' := by
  by_cases h1 : 97 ≤ c
  · by_cases h2 : c ≤ 122
    · rw [inB_t h1 h2]
      go_enter Try.func47, Try.ntmps47
      go_wp2
      go_ret
      exact ⟨rfl, rfl⟩
    · rw [inB_f (by omega)]
      have h2' : decide (c ≤ 122) = false := decide_eq_false h2
      go_enter Try.func47, Try.ntmps47
      go_wp2
      go_ret
      exact ⟨rfl, rfl⟩
  · rw [inB_f (by omega)]
    have h1' : decide (97 ≤ c) = false := decide_eq_false h1
    go_enter Try.func47, Try.ntmps47
    go_wp2
    go_ret
    exact ⟨rfl, rfl⟩
theorem specSmall_any (c : Int) (w : World) : Calls Try.prog 45 #[.int .u8 c] w fun e w' => e = .returned (.bool (inB c 97 122)) ∧ w = w' := by
  by_cases h1 : 97 ≤ c
  · by_cases h2 : c ≤ 122
    · rw [inB_t h1 h2]
      go_enter Try.func45, Try.ntmps45
      go_wp2
      go_ret
      exact ⟨rfl, rfl⟩
    · rw [inB_f (by omega)]
      have h2' : decide (c ≤ 122) = false := decide_eq_false h2
      go_enter Try.func45, Try.ntmps45
      go_wp2
      go_ret
      exact ⟨rfl, rfl⟩
  · rw [inB_f (by omega)]
    have h1' : decide (97 ≤ c) = false := decide_eq_false h1
    go_enter Try.func45, Try.ntmps45
    go_wp2
    go_ret
    exact ⟨rfl, rfl⟩
theorem implDigit_any (c : Int) (w : World) : Calls Try.prog 48 #[.int .u8 c] w fun e w' => e = .returned (.bool (inB c 48 57)) ∧ w = w' := by
  by_cases h1 : 48 ≤ c
  · by_cases h2 : c ≤ 57
    · rw [inB_t h1 h2]
      go_enter Try.func48, Try.ntmps48
      go_wp2
      go_ret
      exact ⟨rfl, rfl⟩
    · rw [inB_f (by omega)]
      have h2' : decide (c ≤ 57) = false := decide_eq_false h2
      go_enter Try.func48, Try.ntmps48
      go_wp2
      go_ret
      exact ⟨rfl, rfl⟩
  · rw [inB_f (by omega)]
    have h1' : decide (48 ≤ c) = false := decide_eq_false h1
    go_enter Try.func48, Try.ntmps48
    go_wp2
    go_ret
    exact ⟨rfl, rfl⟩
theorem specDigit_any (c : Int) (w : World) : Calls Try.prog 46 #[.int .u8 c] w fun e w' => e = .returned (.bool (inB c 48 57)) ∧ w = w' := by
  by_cases h1 : 48 ≤ c
  · by_cases h2 : c ≤ 57
    · rw [inB_t h1 h2]
      go_enter Try.func46, Try.ntmps46
      go_wp2
      go_ret
      exact ⟨rfl, rfl⟩
    · rw [inB_f (by omega)]
      have h2' : decide (c ≤ 57) = false := decide_eq_false h2
      go_enter Try.func46, Try.ntmps46
      go_wp2
      go_ret
      exact ⟨rfl, rfl⟩
  · rw [inB_f (by omega)]
    have h1' : decide (48 ≤ c) = false := decide_eq_false h1
    go_enter Try.func46, Try.ntmps46
    go_wp2
    go_ret
    exact ⟨rfl, rfl⟩

/-- A byte that may stand in a name. -/
def nameE (_ : Nat) (c : UInt8) : Bool := inB (c.toNat : Int) 97 122 || inB (c.toNat : Int) 48 57 || decide (c.toNat = 45)
/-- A text is a name. -/
def nameB (l : List UInt8) : Bool := match l with
  | [] => false
  | c :: r => decide (r.length + 1 ≤ 12) && inB (c.toNat : Int) 97 122 && allK nameE 0 (c :: r)
theorem list_data (s : ByteArray) : s.toList = s.data.toList := ByteArray.toList_eq s
theorem bytes_get (s : ByteArray) (k : Nat) (h : k < s.size) : s.data.toList[k]? = some s[k] := by
  rw [List.getElem?_eq_getElem (by simpa using h)]; rfl

theorem nameB_no {l : List UInt8} (h : l = [] ∨ 12 < l.length) : nameB l = false := by
  unfold nameB
  split
  · rfl
  · rcases h with h | h
    · cases h
    · rename_i c r
      rw [decide_eq_false (show ¬ r.length + 1 ≤ 12 from by simp only [List.length_cons] at h; omega)]; rfl
theorem nameB_head {l : List UInt8} {c : UInt8} (h : l[0]? = some c) (hc : inB (c.toNat : Int) 97 122 = false) : nameB l = false := by
  match l, h with
  | d :: r, h =>
    simp at h; subst h
    show (decide (r.length + 1 ≤ 12) && inB (d.toNat : Int) 97 122 && allK nameE 0 (d :: r)) = false
    rw [hc]; simp
theorem nameB_in {l : List UInt8} {c : UInt8} (h : l[0]? = some c) (hl : l.length ≤ 12) (hc : inB (c.toNat : Int) 97 122 = true) : nameB l = allK nameE 0 l := by
  match l, h with
  | d :: r, h =>
    simp at h; subst h
    show (decide (r.length + 1 ≤ 12) && inB (d.toNat : Int) 97 122 && allK nameE 0 (d :: r)) = _
    rw [decide_eq_true (show r.length + 1 ≤ 12 from by simpa using hl), hc]; rfl

set_option maxHeartbeats 3200000 in
theorem implName_any (s : ByteArray) (w : World) (hs : s.size ≤ 9223372036854775807) : Calls Try.prog 19 #[.string s] w fun e w' => e = .returned (.bool (nameB s.data.toList)) ∧ w = w' := by
  have hsz : s.data.toList.length = s.size := by simp
  rcases (by omega : s.size = 0 ∨ 12 < s.size ∨ (1 ≤ s.size ∧ s.size ≤ 12)) with h0 | h0 | ⟨h0, h1⟩
  · rw [nameB_no (.inl (List.eq_nil_of_length_eq_zero (by rw [hsz, h0])))]
    have e1 : s.toList = [] := by rw [list_data]; exact List.eq_nil_of_length_eq_zero (by rw [hsz, h0])
    have e2 : (s.size : Int) < 1 := by omega
    clear h0 hsz
    go_enter Try.func19, Try.ntmps19
    go_wp2_with fail
    go_ret
    exact ⟨rfl, rfl⟩
  · rw [nameB_no (.inr (by rw [hsz]; exact h0))]
    have e1 : s.toList.isEmpty = false := by rw [list_data, List.isEmpty_eq_false_iff_exists_mem]; cases hl : s.data.toList with
      | nil => rw [hl] at hsz; simp at hsz; omega
      | cons a r => exact ⟨a, by simp⟩
    clear hsz
    go_enter Try.func19, Try.ntmps19
    go_wp2_with fail
    go_ret
    exact ⟨rfl, rfl⟩
  · have e1 : s.toList.isEmpty = false := by rw [list_data, List.isEmpty_eq_false_iff_exists_mem]; cases hl : s.data.toList with
      | nil => rw [hl] at hsz; simp at hsz; omega
      | cons a r => exact ⟨a, by simp⟩
    have hp : 0 < s.size := by omega
    have hg := bytes_get s 0 hp
    cases hc : inB (s[0].toNat : Int) 97 122
    · rw [nameB_head hg hc]
      clear hg hsz
      go_enter Try.func19, Try.ntmps19
      go_wp2_with (go_at_call 47; refine (implSmall_any _ _).mono ?_; rintro e w1 ⟨rfl, rfl⟩)
      go_ret
      exact ⟨rfl, rfl⟩
    · rw [nameB_in hg (by omega) hc]
      obtain ⟨V, hV⟩ : ∃ V, V = allK nameE 0 s.data.toList := ⟨_, rfl⟩
      rw [← hV]
      have HV := Lib.hid hV
      have Hsz := Lib.hid hsz
      clear hV hg hsz
      go_enter Try.func19, Try.ntmps19
      go_wp2_with (go_at_call 47; refine (implSmall_any _ _).mono ?_; rintro e w1 ⟨rfl, rfl⟩)
      clear hc
      go_loop [21] (fun i => ∃ k : Nat, k ≤ s.size ∧ i = .int .i64 k ∧ Hid (Upto nameE s.data.toList k)) (fun i => s.size - (intOf i).toNat)
      case atStart => exact ⟨0, Nat.zero_le _, rfl, Upto.zero _ _⟩
      case round =>
        obtain ⟨k, hk, rfl, HU⟩ := hrel
        by_cases hlt : k < s.size
        · have HZ : Hid (s.data.toList[k]? = some s[k]) := bytes_get s k hlt
          have HE : Hid (nameE k s[k] = (inB (s[k].toNat : Int) 97 122 || inB (s[k].toNat : Int) 48 57 || decide (s[k].toNat = 45))) := by show nameE k s[k] = _; rfl
          cases h1 : inB (s[k].toNat : Int) 97 122
          · cases h2 : inB (s[k].toNat : Int) 48 57
            · by_cases h3 : s[k].toNat = 45
              · have HN := Lib.hid (HU.out.step HZ.out (by rw [HE.out, h1, h2, decide_eq_true h3]; rfl))
                have h3a : (s[k].toNat : Int) ≤ 45 := by omega
                have h3b : (45 : Int) ≤ (s[k].toNat : Int) := by omega
                clear h3
                go_wp2_with (first | (go_at_call 47; refine (implSmall_any _ _).mono ?_; rintro e w1 ⟨rfl, rfl⟩) | (go_at_call 48; refine (implDigit_any _ _).mono ?_; rintro e w1 ⟨rfl, rfl⟩))
                go_round
                case rel => exact ⟨k + 1, by omega, by go_num, HN⟩
                case measure => simp [intOf]; omega
              · have HF : Hid (allK nameE 0 s.data.toList = false) := allK_f nameE _ 0 k _ HZ.out (by rw [Nat.zero_add, HE.out, h1, h2, decide_eq_false h3]; rfl)
                have h3' : ((s[k].toNat : Int) != 45) = true := by rw [bne_iff_ne]; omega
                clear h3
                go_wp2_with (first | (go_at_call 47; refine (implSmall_any _ _).mono ?_; rintro e w1 ⟨rfl, rfl⟩) | (go_at_call 48; refine (implDigit_any _ _).mono ?_; rintro e w1 ⟨rfl, rfl⟩))
                go_ret
                exact ⟨ret_bool (by rw [HV.out, HF.out]), rfl⟩
            · have HN := Lib.hid (HU.out.step HZ.out (by rw [HE.out, h1, h2]; rfl))
              go_wp2_with (first | (go_at_call 47; refine (implSmall_any _ _).mono ?_; rintro e w1 ⟨rfl, rfl⟩) | (go_at_call 48; refine (implDigit_any _ _).mono ?_; rintro e w1 ⟨rfl, rfl⟩))
              go_round
              case rel => exact ⟨k + 1, by omega, by go_num, HN⟩
              case measure => simp [intOf]; omega
          · have HN := Lib.hid (HU.out.step HZ.out (by rw [HE.out, h1]; rfl))
            go_wp2_with (first | (go_at_call 47; refine (implSmall_any _ _).mono ?_; rintro e w1 ⟨rfl, rfl⟩) | (go_at_call 48; refine (implDigit_any _ _).mono ?_; rintro e w1 ⟨rfl, rfl⟩))
            go_round
            case rel => exact ⟨k + 1, by omega, by go_num, HN⟩
            case measure => simp [intOf]; omega
        · obtain rfl : s.size = k := by omega
          go_wp2
          go_ret
          exact ⟨ret_bool (by rw [HV.out]; exact (HU.out.all (by have := Hsz.out; omega)).symm), rfl⟩
set_option maxHeartbeats 3200000 in
theorem specName_any (s : ByteArray) (w : World) (hs : s.size ≤ 9223372036854775807) : Calls Try.prog 18 #[.string s] w fun e w' => e = .returned (.bool (nameB s.data.toList)) ∧ w = w' := by
  have hsz : s.data.toList.length = s.size := by simp
  rcases (by omega : s.size = 0 ∨ 12 < s.size ∨ (1 ≤ s.size ∧ s.size ≤ 12)) with h0 | h0 | ⟨h0, h1⟩
  · rw [nameB_no (.inl (List.eq_nil_of_length_eq_zero (by rw [hsz, h0])))]
    have e1 : s.toList = [] := by rw [list_data]; exact List.eq_nil_of_length_eq_zero (by rw [hsz, h0])
    have e2 : (s.size : Int) < 1 := by omega
    clear h0 hsz
    go_enter Try.func18, Try.ntmps18
    go_wp2_with fail
    go_ret
    exact ⟨rfl, rfl⟩
  · rw [nameB_no (.inr (by rw [hsz]; exact h0))]
    have e1 : s.toList.isEmpty = false := by rw [list_data, List.isEmpty_eq_false_iff_exists_mem]; cases hl : s.data.toList with
      | nil => rw [hl] at hsz; simp at hsz; omega
      | cons a r => exact ⟨a, by simp⟩
    clear hsz
    go_enter Try.func18, Try.ntmps18
    go_wp2_with fail
    go_ret
    exact ⟨rfl, rfl⟩
  · have e1 : s.toList.isEmpty = false := by rw [list_data, List.isEmpty_eq_false_iff_exists_mem]; cases hl : s.data.toList with
      | nil => rw [hl] at hsz; simp at hsz; omega
      | cons a r => exact ⟨a, by simp⟩
    have hp : 0 < s.size := by omega
    have hg := bytes_get s 0 hp
    cases hc : inB (s[0].toNat : Int) 97 122
    · rw [nameB_head hg hc]
      clear hg hsz
      go_enter Try.func18, Try.ntmps18
      go_wp2_with (go_at_call 45; refine (specSmall_any _ _).mono ?_; rintro e w1 ⟨rfl, rfl⟩)
      go_ret
      exact ⟨rfl, rfl⟩
    · rw [nameB_in hg (by omega) hc]
      obtain ⟨V, hV⟩ : ∃ V, V = allK nameE 0 s.data.toList := ⟨_, rfl⟩
      rw [← hV]
      have HV := Lib.hid hV
      have Hsz := Lib.hid hsz
      clear hV hg hsz
      go_enter Try.func18, Try.ntmps18
      go_wp2_with (go_at_call 45; refine (specSmall_any _ _).mono ?_; rintro e w1 ⟨rfl, rfl⟩)
      clear hc
      go_loop [3] (fun i => ∃ k : Nat, k ≤ s.size ∧ i = .int .i64 k ∧ Hid (Upto nameE s.data.toList k)) (fun i => s.size - (intOf i).toNat)
      case atStart => exact ⟨0, Nat.zero_le _, rfl, Upto.zero _ _⟩
      case round =>
        obtain ⟨k, hk, rfl, HU⟩ := hrel
        by_cases hlt : k < s.size
        · have HZ : Hid (s.data.toList[k]? = some s[k]) := bytes_get s k hlt
          have HE : Hid (nameE k s[k] = (inB (s[k].toNat : Int) 97 122 || inB (s[k].toNat : Int) 48 57 || decide (s[k].toNat = 45))) := by show nameE k s[k] = _; rfl
          cases h1 : inB (s[k].toNat : Int) 97 122
          · cases h2 : inB (s[k].toNat : Int) 48 57
            · by_cases h3 : s[k].toNat = 45
              · have HN := Lib.hid (HU.out.step HZ.out (by rw [HE.out, h1, h2, decide_eq_true h3]; rfl))
                have h3a : (s[k].toNat : Int) ≤ 45 := by omega
                have h3b : (45 : Int) ≤ (s[k].toNat : Int) := by omega
                clear h3
                go_wp2_with (first | (go_at_call 45; refine (specSmall_any _ _).mono ?_; rintro e w1 ⟨rfl, rfl⟩) | (go_at_call 46; refine (specDigit_any _ _).mono ?_; rintro e w1 ⟨rfl, rfl⟩))
                go_round
                case rel => exact ⟨k + 1, by omega, by go_num, HN⟩
                case measure => simp [intOf]; omega
              · have HF : Hid (allK nameE 0 s.data.toList = false) := allK_f nameE _ 0 k _ HZ.out (by rw [Nat.zero_add, HE.out, h1, h2, decide_eq_false h3]; rfl)
                have h3' : ((s[k].toNat : Int) != 45) = true := by rw [bne_iff_ne]; omega
                clear h3
                go_wp2_with (first | (go_at_call 45; refine (specSmall_any _ _).mono ?_; rintro e w1 ⟨rfl, rfl⟩) | (go_at_call 46; refine (specDigit_any _ _).mono ?_; rintro e w1 ⟨rfl, rfl⟩))
                go_ret
                exact ⟨ret_bool (by rw [HV.out, HF.out]), rfl⟩
            · have HN := Lib.hid (HU.out.step HZ.out (by rw [HE.out, h1, h2]; rfl))
              go_wp2_with (first | (go_at_call 45; refine (specSmall_any _ _).mono ?_; rintro e w1 ⟨rfl, rfl⟩) | (go_at_call 46; refine (specDigit_any _ _).mono ?_; rintro e w1 ⟨rfl, rfl⟩))
              go_round
              case rel => exact ⟨k + 1, by omega, by go_num, HN⟩
              case measure => simp [intOf]; omega
          · have HN := Lib.hid (HU.out.step HZ.out (by rw [HE.out, h1]; rfl))
            go_wp2_with (first | (go_at_call 45; refine (specSmall_any _ _).mono ?_; rintro e w1 ⟨rfl, rfl⟩) | (go_at_call 46; refine (specDigit_any _ _).mono ?_; rintro e w1 ⟨rfl, rfl⟩))
            go_round
            case rel => exact ⟨k + 1, by omega, by go_num, HN⟩
            case measure => simp [intOf]; omega
        · obtain rfl : s.size = k := by omega
          go_wp2
          go_ret
          exact ⟨ret_bool (by rw [HV.out]; exact (HU.out.all (by have := Hsz.out; omega)).symm), rfl⟩

theorem fnExactIsName_walk (s : ByteArray) (hs : s.size ≤ 9223372036854775807) (w : World) : Calls Try.prog 6 #[.string s] w fun e w' => e = .returned (.bool true) ∧ Below w.heap.size w w' := by
  by_cases hn : (1048576 : Int) < s.size
  · go_enter Try.func6, Try.ntmps6
    go_wp2
    go_ret
    exact ⟨rfl, Below.refl _ _⟩
  · go_enter Try.func6, Try.ntmps6
    go_wp2_with fail
    refine (specName_any s _ hs).mono ?_
    rintro e w' ⟨rfl, rfl⟩
    go_wp2_with fail
    refine (implName_any s _ hs).mono ?_
    rintro e w' ⟨rfl, rfl⟩
    go_wp2_with fail
    go_ret
    exact ⟨rfl, Below.refl _ _⟩
end Go.Proofs.Ytbchokafjnehoaa
