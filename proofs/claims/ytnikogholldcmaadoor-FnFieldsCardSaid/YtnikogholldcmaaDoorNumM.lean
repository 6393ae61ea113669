/-
  Decimal numerals and how they are read: plain laws.
  No condition.
-/
import Derived.Test.YtnikogholldcmaaDoorProg
import Derived.Lib.ItoaNum
import Derived.Lib.ItoaMem
import Derived.Lib.ParseIntB
namespace Go.Proofs.YtnikogholldcmaaDoor
open Go.Lib
set_option linter.unusedVariables false

/-- Is it a digit? -/
def isDg (c : UInt8) : Bool := decide (48 ≤ c.toNat ∧ c.toNat ≤ 57)
/-- What digits spell behind others. -/
def valL : Nat → List UInt8 → Nat
  | a, [] => a
  | a, c :: r => valL (a * 10 + (c.toNat - 48)) r
def allD (l : List UInt8) : Bool := l.all isDg
theorem valL_app : ∀ (l r : List UInt8) (a : Nat), valL a (l ++ r) = valL (valL a l) r
  | [], _, _ => rfl
  | c :: l, r, a => valL_app l r _
theorem valL_ge : ∀ (l : List UInt8) (a : Nat), a ≤ valL a l
  | [], a => Nat.le_refl _
  | c :: l, a => Nat.le_trans (by omega) (valL_ge l (a * 10 + (c.toNat - 48)))
theorem allD_app (l r : List UInt8) : allD (l ++ r) = (allD l && allD r) := by unfold allD; rw [List.all_append]
theorem allD_cons (c : UInt8) (r : List UInt8) : allD (c :: r) = (isDg c && allD r) := by unfold allD; rw [List.all_cons]
theorem dig_u8 {u : Nat} (h : u < 10) : (UInt8.ofNat (48 + u)).toNat = 48 + u := by
  rw [UInt8.toNat_ofNat']; omega
theorem isDg_dig {u : Nat} (h : u < 10) : isDg (UInt8.ofNat (48 + u)) = true := by
  unfold isDg; rw [dig_u8 h]; exact decide_eq_true (by omega)
theorem dec_small {u : Nat} (h : u < 10) : decDigits u = [UInt8.ofNat (48 + u)] := by rw [decDigits, dif_pos h]
theorem dec_big {u : Nat} (h : ¬ u < 10) : decDigits u = decDigits (u / 10) ++ [UInt8.ofNat (48 + u % 10)] := by rw [decDigits, dif_neg h]
theorem valL_dec (u : Nat) : valL 0 (decDigits u) = u ∧ allD (decDigits u) = true ∧ decDigits u ≠ [] := by
  induction u using Nat.strongRecOn with
  | ind u ih =>
    by_cases h : u < 10
    · rw [dec_small h]
      refine ⟨?_, ?_, by simp⟩
      · show 0 * 10 + ((UInt8.ofNat (48 + u)).toNat - 48) = u
        rw [dig_u8 h]; omega
      · rw [allD_cons, isDg_dig h]; rfl
    · obtain ⟨h1, h2, _⟩ := ih (u / 10) (by omega)
      rw [dec_big h, valL_app, h1, allD_app, h2]
      refine ⟨?_, ?_, by simp⟩
      · show u / 10 * 10 + ((UInt8.ofNat (48 + u % 10)).toNat - 48) = u
        rw [dig_u8 (by omega)]; omega
      · rw [allD_cons, isDg_dig (by omega)]; rfl
theorem valL_lt : ∀ (l : List UInt8) (a : Nat), allD l = true → valL a l < (a + 1) * 10 ^ l.length
  | [], a, _ => by show a < (a + 1) * 10 ^ 0; omega
  | c :: l, a, h => by
    rw [allD_cons, Bool.and_eq_true] at h
    have hd := of_decide_eq_true (h.1 : decide _ = true)
    have := valL_lt l (a * 10 + (c.toNat - 48)) h.2
    rw [List.length_cons, Nat.pow_succ]
    have e : (a * 10 + (c.toNat - 48) + 1) * 10 ^ l.length ≤ ((a + 1) * 10) * 10 ^ l.length := Nat.mul_le_mul_right _ (by omega)
    have e2 : (a + 1) * (10 ^ l.length * 10) = ((a + 1) * 10) * 10 ^ l.length := by rw [Nat.mul_comm (10 ^ l.length) 10, Nat.mul_assoc]
    rw [e2]
    exact Nat.lt_of_lt_of_le this e

/-- What lies behind a sign. -/
def tmL : List UInt8 → List UInt8
  | [] => []
  | c :: r => if c.toNat = 45 then r else c :: r
def ngL : List UInt8 → Bool
  | [] => false
  | c :: _ => decide (c.toNat = 45)
/-- The number that a text spells. -/
def valI (l : List UInt8) : Int := if ngL l = true then -(valL 0 (tmL l) : Int) else (valL 0 (tmL l) : Int)
/-- Is it the decimal form of a number of at most 18 digits? -/
def rdB (l : List UInt8) : Bool := decide ((tmL l).length ≤ 18 ∧ itoa (valI l) = l)

theorem not_dash {c : UInt8} (h : isDg c = true) : ¬ c.toNat = 45 ∧ ¬ c.toNat = 43 := by
  have := of_decide_eq_true (h : decide _ = true)
  omega
theorem c45 : (45 : UInt8).toNat = 45 := by decide
theorem tm_dec (u : Nat) : tmL (decDigits u) = decDigits u ∧ ngL (decDigits u) = false := by
  obtain ⟨_, h2, h3⟩ := valL_dec u
  match hd : decDigits u, h2, h3 with
  | c :: r, h2, _ =>
    rw [allD_cons, Bool.and_eq_true] at h2
    have := not_dash h2.1
    exact ⟨if_neg this.1, decide_eq_false this.1⟩
theorem tm_itoa (n : Int) : tmL (itoa n) = decDigits n.natAbs ∧ ngL (itoa n) = decide (n < 0) := by
  unfold itoa
  by_cases h : n < 0
  · rw [if_pos h]
    exact ⟨by show (if (45 : UInt8).toNat = 45 then decDigits n.natAbs else 45 :: decDigits n.natAbs) = _; rw [if_pos c45], by rw [decide_eq_true h]; exact decide_eq_true c45⟩
  · rw [if_neg h, decide_eq_false h]
    obtain ⟨h1, h2⟩ := tm_dec n.toNat
    exact ⟨by rw [h1]; congr 1; omega, h2⟩
theorem val_itoa (n : Int) : valI (itoa n) = n := by
  obtain ⟨h1, h2⟩ := tm_itoa n
  unfold valI
  rw [h1, h2, (valL_dec _).1]
  by_cases h : n < 0
  · rw [if_pos (decide_eq_true h)]; omega
  · rw [if_neg (by simpa using h)]; omega
theorem itoa_inj {a b : Int} (h : itoa a = itoa b) : a = b := by rw [← val_itoa a, h, val_itoa]
theorem itoa_ne (n : Int) : itoa n ≠ [] := by
  unfold itoa
  split
  · simp
  · exact (valL_dec _).2.2
/-- The bytes of a numeral: digits, and a sign. -/
theorem itoa_bytes (n : Int) : ∀ c ∈ itoa n, (48 ≤ c.toNat ∧ c.toNat ≤ 57) ∨ c.toNat = 45 := by
  intro c hc
  have hd : ∀ u, c ∈ decDigits u → 48 ≤ c.toNat ∧ c.toNat ≤ 57 := fun u h => by
    have := (valL_dec u).2.1
    unfold allD at this
    rw [List.all_eq_true] at this
    exact of_decide_eq_true (this c h : decide _ = true)
  unfold itoa at hc
  split at hc
  · rcases List.mem_cons.1 hc with h | h
    · right; rw [h]; decide
    · exact .inl (hd _ h)
  · exact .inl (hd _ hc)
theorem rdB_iff {l : List UInt8} : rdB l = true ↔ (tmL l).length ≤ 18 ∧ itoa (valI l) = l := by unfold rdB; exact decide_eq_true_iff
/-- What such a text is. -/
theorem rdB_form {l : List UInt8} (h : rdB l = true) : tmL l = decDigits (valI l).natAbs ∧ ngL l = decide (valI l < 0) ∧ allD (tmL l) = true ∧ tmL l ≠ [] ∧ (valI l).natAbs < 1000000000000000000 := by
  obtain ⟨h1, h2⟩ := rdB_iff.1 h
  obtain ⟨k1, k2⟩ := tm_itoa (valI l)
  rw [h2] at k1 k2
  obtain ⟨v1, v2, v3⟩ := valL_dec (valI l).natAbs
  refine ⟨k1, k2, by rw [k1]; exact v2, by rw [k1]; exact v3, ?_⟩
  have := valL_lt (decDigits (valI l).natAbs) 0 v2
  rw [v1] at this
  rw [k1] at h1
  have h3 : 10 ^ (decDigits (valI l).natAbs).length ≤ 10 ^ 18 := Nat.pow_le_pow_right (by omega) h1
  have h4 : (10 : Nat) ^ 18 = 1000000000000000000 := by decide
  omega
theorem rdB_itoa {n : Int} (h : n.natAbs < 1000000000000000000) : rdB (itoa n) = true := by
  refine rdB_iff.2 ⟨?_, by rw [val_itoa]⟩
  rw [(tm_itoa n).1, decDigits_length]
  rcases Nat.lt_or_ge 18 (nDigits n.natAbs) with hl | hl
  · exfalso
    have hp : ∀ u : Nat, 10 ^ (nDigits u - 1) ≤ u ∨ u = 0 := by
      intro u
      induction u using Nat.strongRecOn with
      | ind u ih =>
        by_cases hu : u < 10
        · rw [nDigits_small hu]; simp; omega
        · rw [nDigits_big hu]
          have h0 := nDigits_pos (u / 10)
          obtain ⟨k, hk⟩ : ∃ k, nDigits (u / 10) = k + 1 := ⟨nDigits (u / 10) - 1, by omega⟩
          rcases ih (u / 10) (by omega) with h1 | h1
          · rw [hk] at h1 ⊢
            simp only [Nat.add_sub_cancel] at h1 ⊢
            left
            rw [Nat.pow_succ]; omega
          · omega
    have h3 : 10 ^ 18 ≤ 10 ^ (nDigits n.natAbs - 1) := Nat.pow_le_pow_right (by omega) (by omega)
    have h4 : (10 : Nat) ^ 18 = 1000000000000000000 := by decide
    have hu : ¬ n.natAbs = 0 := by
      intro e
      rw [e, nDigits_small (by omega)] at hl; omega
    rcases hp n.natAbs with h1 | h1
    · omega
    · exact hu h1
  · exact hl

/-- The digits, none for 0. -/
def digsU (u : Nat) : List UInt8 := if h : u = 0 then [] else digsU (u / 10) ++ [UInt8.ofNat (48 + u % 10)]
termination_by u
decreasing_by omega
theorem digsU_zero : digsU 0 = [] := by rw [digsU]; simp
theorem digsU_pos {u : Nat} (h : 0 < u) : digsU u = digsU (u / 10) ++ [UInt8.ofNat (48 + u % 10)] := by rw [digsU]; simp [show u ≠ 0 by omega]
theorem dec_digs (u : Nat) : 0 < u → decDigits u = digsU u := by
  induction u using Nat.strongRecOn with
  | ind u ih =>
    intro h
    by_cases hu : u < 10
    · rw [dec_small hu, digsU_pos h, show u / 10 = 0 by omega, digsU_zero, show u % 10 = u by omega]; rfl
    · rw [dec_big hu, digsU_pos h, ih (u / 10) (by omega) (by omega)]
theorem digsU_len : ∀ (k u : Nat), u < 10 ^ k → (digsU u).length ≤ k
  | 0, u, h => by
    have : u = 0 := by simpa using h
    subst this; rw [digsU_zero]; exact Nat.le_refl _
  | k + 1, u, h => by
    rcases Nat.eq_zero_or_pos u with h0 | h0
    · subst h0; rw [digsU_zero]; simp
    · rw [digsU_pos h0, List.length_append]
      have := digsU_len k (u / 10) (by rw [Nat.pow_succ] at h; omega)
      simp; omega

/-! ### The library's parser -/
theorem parseM_ok : ∀ (l : List UInt8) (M a : Nat), M ≤ 18446744073709551615 → allD l = true → valL a l ≤ M → parseUintM M a l = .ok (valL a l)
  | [], M, a, _, _, _ => rfl
  | c :: r, M, a, hM, h, hv => by
    rw [allD_cons, Bool.and_eq_true] at h
    have hd := of_decide_eq_true (h.1 : decide _ = true)
    have hg := valL_ge r (a * 10 + (c.toNat - 48))
    have hv' : valL (a * 10 + (c.toNat - 48)) r ≤ M := hv
    unfold parseUintM
    rw [if_pos hd, if_neg (by omega), if_neg (by omega)]
    exact parseM_ok r M _ hM h.2 hv
theorem parseM_inv : ∀ (l : List UInt8) (M a u : Nat), parseUintM M a l = .ok u → allD l = true ∧ u = valL a l
  | [], M, a, u, h => by
    simp only [parseUintM] at h
    injection h with h
    exact ⟨rfl, h.symm⟩
  | c :: r, M, a, u, h => by
    unfold parseUintM at h
    split at h
    · rename_i hd
      split at h
      · cases h
      · split at h
        · cases h
        · obtain ⟨h1, h2⟩ := parseM_inv r M _ u h
          exact ⟨by rw [allD_cons, h1]; unfold isDg; rw [decide_eq_true hd]; rfl, h2⟩
    · cases h
theorem parseB_dec {u : Nat} (h : u < 1000000000000000000) : parseUintB 64 (decDigits u) = .ok u := by
  obtain ⟨h1, h2, h3⟩ := valL_dec u
  unfold parseUintB
  have := parseM_ok (decDigits u) (2 ^ 64 - 1) 0 (by decide) h2 (by rw [h1]; have : (2 : Nat) ^ 64 - 1 = 18446744073709551615 := by decide
                                                                    omega)
  rw [if_neg h3, this, h1]
theorem parse_itoa {n : Int} (h : n.natAbs < 1000000000000000000) : parseIntB 64 (itoa n) = .ok n := by
  have p1 : (2 : Nat) ^ (64 - 1) = 9223372036854775808 := by decide
  have p2 : (2 : Int) ^ (64 - 1) = 9223372036854775808 := by decide
  unfold itoa
  by_cases hn : n < 0
  · rw [if_pos hn]
    unfold parseIntB
    simp only [show (45 : UInt8).toNat = 45 from by decide, or_true, if_true]
    rw [parseB_dec h]
    simp only [p1]
    rw [if_neg (by simp), if_neg (by omega)]
    congr 1; omega
  · rw [if_neg hn]
    have hp := parseB_dec (u := n.toNat) (by omega)
    obtain ⟨_, v2, v3⟩ := valL_dec n.toNat
    match hd : decDigits n.toNat, v2, v3 with
    | c :: r, v2, _ =>
      rw [allD_cons, Bool.and_eq_true] at v2
      obtain ⟨n1, n2⟩ := not_dash v2.1
      rw [hd] at hp
      unfold parseIntB
      simp only
      rw [if_neg (by omega), hp]
      simp only [p1]
      rw [if_neg (by omega), if_neg (by omega), if_neg n1]
      congr 1; omega
/-- The program's reading is the plain one. -/
theorem rd_ok {l : List UInt8} (h : rdB l = true) : parseIntB 64 l = .ok (valI l) := by
  obtain ⟨_, h2⟩ := rdB_iff.1 h
  have := parse_itoa (rdB_form h).2.2.2.2
  rwa [h2] at this
theorem rd_no {l : List UInt8} {v : Int} (h : rdB l = false) (hl : (tmL l).length ≤ 18) : itoa v ≠ l := by
  intro e
  have : rdB l = true := rdB_iff.2 ⟨hl, by rw [← e, val_itoa]⟩
  rw [this] at h; cases h
/-- Not the decimal form of any number, from the spec's side. -/
theorem rd_spec {l : List UInt8} (hl : (tmL l).length ≤ 18) : rdB l = decide (itoa (valI l) = l) := by
  unfold rdB
  by_cases h : itoa (valI l) = l
  · rw [decide_eq_true ⟨hl, h⟩, decide_eq_true h]
  · rw [decide_eq_false (fun e => h e.2), decide_eq_false h]
end Go.Proofs.YtnikogholldcmaaDoor
