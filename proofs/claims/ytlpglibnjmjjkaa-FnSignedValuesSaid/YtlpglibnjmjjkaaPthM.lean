/-
  The paths to fractions and their bounds: plain laws on short terms, runs and bounds.
  No condition.
-/
import Derived.Test.YtlpglibnjmjjkaaProg
import Derived.Test.YtlpglibnjmjjkaaMem
import Derived.Test.YtlpglibnjmjjkaaBasic
import Derived.Test.YtlpglibnjmjjkaaFrac
import Derived.Test.YtlpglibnjmjjkaaExp
namespace Go.Proofs.Ytlpglibnjmjjkaa
open Go.RowKit
set_option linter.unusedVariables false

theorem expN_ne {a : Int} {b : Nat} (h : 0 < b) : expN a b ≠ [] := by rw [expN_pos h]; simp
/-- The last term of a quotient above 1 is 2 at least. -/
theorem expN_last (b : Nat) : ∀ a : Int, 0 < b → (b : Int) < a → ∀ z, (expN a b).getLast? = some z → 2 ≤ z := by
  induction b using Nat.strongRecOn with
  | ind b ih =>
    intro a h0 h1 z hz
    have hm := mod_bd a h0
    rw [expN_pos h0] at hz
    rcases Nat.eq_zero_or_pos (a % (b : Int)).toNat with he | he
    · rw [he, expN_zero] at hz
      simp at hz
      have hq := quo_mul a h0
      have h2 : (a / (b : Int)) * b = a := by omega
      rw [← hz]
      rcases Int.lt_or_le (a / (b : Int)) 2 with hl | hl
      · exfalso
        have : (a / (b : Int)) * b ≤ 1 * b := Int.mul_le_mul_of_nonneg_right (by omega) (by omega)
        omega
      · exact hl
    · rw [List.getLast?_cons_of_ne_nil (expN_ne he)] at hz
      exact ih _ (by omega) b he (by omega) z hz
/-- If the last term is 1, it is the only one. -/
theorem expN_one {p : Int} {d m : Nat} (hd : 0 < d) (hl : (expN p d).length = m + 1) (h : (expN p d)[m]? = some 1) : m = 0 := by
  have hm := mod_bd p hd
  rcases Nat.eq_zero_or_pos (p % (d : Int)).toNat with he | he
  · rw [expN_pos hd, he, expN_zero] at hl
    simp at hl; omega
  · exfalso
    have hlast : (expN p d).getLast? = some 1 := by rw [List.getLast?_eq_getElem?, hl]; exact h
    rw [expN_pos hd, List.getLast?_cons_of_ne_nil (expN_ne he)] at hlast
    have := expN_last _ d he (by omega) 1 hlast
    omega

/-- The last term less by one. -/
def decL : List Int → List Int
  | [] => []
  | [z] => [z - 1]
  | z :: y :: r => z :: decL (y :: r)
theorem decL_cons {z : Int} {l : List Int} (h : l ≠ []) : decL (z :: l) = z :: decL l := by
  match l, h with
  | y :: r, _ => rfl
theorem decL_set : ∀ (l : List Int) (m : Nat) (z : Int), l.length = m + 1 → l[m]? = some z → decL l = l.set m (z - 1)
  | [y], 0, z, _, h => by simp at h; subst h; rfl
  | y :: x :: r, 0, z, hl, _ => by simp at hl
  | y :: x :: r, m + 1, z, hl, h => by
    rw [decL_cons (by simp), decL_set (x :: r) m z (by simpa using hl) (by simpa using h)]; rfl
  | [y], m + 1, z, hl, _ => by simp at hl
  | [], m, z, hl, _ => by simp at hl
theorem decL_len : ∀ l : List Int, (decL l).length = l.length
  | [] => rfl
  | [z] => rfl
  | z :: y :: r => by rw [decL_cons (by simp), List.length_cons, decL_len (y :: r)]; simp

/-- The runs of the path to a positive fraction. -/
def pthL (p : Int) (d : Nat) : List Int := if decL (expN p d) = [0] then [] else decL (expN p d)

/-- The bounds behind a state, the runs from place k on. -/
def bndF : List Int → Nat → Int × Int × Int × Int → Int × Int × Int × Int
  | [], _, s => s
  | n :: l, k, (p, q, r, t) => bndF l (k + 1) (if k % 2 = 0 then (p + n * r, q + n * t, r, t) else (p, q, r + n * p, t + n * q))
def BndIn (s : Int × Int × Int × Int) : Prop := (0 ≤ s.1 ∧ s.1 ≤ 1000000000) ∧ (0 ≤ s.2.1 ∧ s.2.1 ≤ 1000000000) ∧ (0 ≤ s.2.2.1 ∧ s.2.2.1 ≤ 1000000000) ∧ (0 ≤ s.2.2.2 ∧ s.2.2.2 ≤ 1000000000)
def BndOk : List Int → Nat → Int × Int × Int × Int → Prop
  | [], _, s => BndIn s
  | n :: l, k, (p, q, r, t) => BndIn (p, q, r, t) ∧ (-1000000000 ≤ n ∧ n ≤ 1000000000) ∧ BndOk l (k + 1) (if k % 2 = 0 then (p + n * r, q + n * t, r, t) else (p, q, r + n * p, t + n * q))
theorem BndOk.head : ∀ {l : List Int} {k : Nat} {s : Int × Int × Int × Int}, BndOk l k s → BndIn s
  | [], _, _, h => h
  | _ :: _, _, _, h => h.1

theorem le_sum {P r p x y : Int} (h : P = r * x + p * y) (h1 : 0 ≤ r) (h2 : 0 ≤ p) (h3 : 1 ≤ x) (h4 : 1 ≤ y) : r ≤ P ∧ p ≤ P := by
  have a := Int.mul_le_mul_of_nonneg_left h3 h1
  have b := Int.mul_le_mul_of_nonneg_left h4 h2
  have c := Int.mul_nonneg h1 (show 0 ≤ x by omega)
  have d := Int.mul_nonneg h2 (show 0 ≤ y by omega)
  omega
theorem sum_step {P r p x y a e : Int} (h : P = r * x + p * y) (hx : x = y * a + e) : P = (p + a * r) * y + r * e := by grind
theorem det_step (p q r t a : Int) : (r * (q + a * t) - (p + a * r) * t = r * q - p * t) ∧ ((r + a * p) * q - p * (t + a * q) = r * q - p * t) := by constructor <;> grind

set_option maxHeartbeats 1600000 in
theorem bnd_main (y : Nat) : ∀ (x : Int) (k : Nat) (p q r t P Q : Int), 0 < y → 1 ≤ x → x ≤ 1000000000 → y ≤ 1000000000 → Int.gcd x y = 1 → 0 ≤ p → 0 ≤ q → 0 ≤ r → 0 ≤ t → P ≤ 1000000000 → Q ≤ 1000000000 →
    (k % 2 = 0 → P = r * x + p * y ∧ Q = t * x + q * y) → (k % 2 = 1 → P = p * x + r * y ∧ Q = q * x + t * y) → r * q - p * t = 1 →
    BndOk (decL (expN x y)) k (p, q, r, t) ∧ (bndF (decL (expN x y)) k (p, q, r, t)).1 + (bndF (decL (expN x y)) k (p, q, r, t)).2.2.1 = P ∧ (bndF (decL (expN x y)) k (p, q, r, t)).2.1 + (bndF (decL (expN x y)) k (p, q, r, t)).2.2.2 = Q ∧
      (bndF (decL (expN x y)) k (p, q, r, t)).2.2.1 * (bndF (decL (expN x y)) k (p, q, r, t)).2.1 - (bndF (decL (expN x y)) k (p, q, r, t)).1 * (bndF (decL (expN x y)) k (p, q, r, t)).2.2.2 = 1 := by
  induction y using Nat.strongRecOn with
  | ind y ih =>
    intro x k p q r t P Q hy hx hx2 hy2 hg p0 q0 r0 t0 P1 Q1 hE hO hdet
    have hm := mod_bd x hy
    have hq := quo_mul x hy
    have hqb := quo_bd x hy (by omega) hx2
    have ha0 : 0 ≤ x / (y : Int) := Int.ediv_nonneg (by omega) (by omega)
    have hin : BndIn (p, q, r, t) := by
      rcases Nat.mod_two_eq_zero_or_one k with hk | hk
      · obtain ⟨e1, e2⟩ := hE hk
        have := le_sum e1 r0 p0 hx (by omega)
        have := le_sum e2 t0 q0 hx (by omega)
        unfold BndIn; simp only; omega
      · obtain ⟨e1, e2⟩ := hO hk
        have := le_sum e1 p0 r0 hx (by omega)
        have := le_sum e2 q0 t0 hx (by omega)
        unfold BndIn; simp only; omega
    obtain ⟨a, ha⟩ : ∃ a, a = x / (y : Int) := ⟨_, rfl⟩
    rw [expN_pos hy, ← ha]
    rw [← ha] at hq hqb ha0
    rcases Nat.eq_zero_or_pos (x % (y : Int)).toNat with he | he
    · have he' : x % (y : Int) = 0 := by omega
      have hy1 : y = 1 := by
        have hd : (y : Int) ∣ x := Int.dvd_of_emod_eq_zero he'
        have : Int.gcd x y = y := by rw [Int.gcd_comm, Int.gcd_eq_natAbs_left hd]; rfl
        omega
      subst hy1
      have hxa : x = a := by simp at hq; omega
      rw [he, expN_zero]
      show BndOk [a - 1] k (p, q, r, t) ∧ _
      rcases Nat.mod_two_eq_zero_or_one k with hk | hk
      · obtain ⟨e1, e2⟩ := hE hk
        have f1 : p + (a - 1) * r = P - r := by rw [e1, hxa, Int.sub_mul, Int.mul_comm r a]; omega
        have f2 : q + (a - 1) * t = Q - t := by rw [e2, hxa, Int.sub_mul, Int.mul_comm t a]; omega
        have g1 := le_sum e1 r0 p0 hx (by omega)
        have g2 := le_sum e2 t0 q0 hx (by omega)
        have hd := (det_step p q r t (a - 1)).1
        simp only [BndOk, bndF, decL, if_pos hk]
        rw [f1, f2] at hd ⊢
        refine ⟨⟨hin, by omega, ?_⟩, by omega, by omega, by omega⟩
        unfold BndIn; simp only; omega
      · obtain ⟨e1, e2⟩ := hO hk
        have hk' : ¬ k % 2 = 0 := by omega
        have f1 : r + (a - 1) * p = P - p := by rw [e1, hxa, Int.sub_mul, Int.mul_comm p a]; omega
        have f2 : t + (a - 1) * q = Q - q := by rw [e2, hxa, Int.sub_mul, Int.mul_comm q a]; omega
        have g1 := le_sum e1 p0 r0 hx (by omega)
        have g2 := le_sum e2 q0 t0 hx (by omega)
        have hd := (det_step p q r t (a - 1)).2
        simp only [BndOk, bndF, decL, if_neg hk']
        rw [f1, f2] at hd ⊢
        refine ⟨⟨hin, by omega, ?_⟩, by omega, by omega, by omega⟩
        unfold BndIn; simp only; omega
    · rw [decL_cons (expN_ne he)]
      have hxe : x = (y : Int) * a + x % (y : Int) := by rw [Int.mul_comm]; omega
      have hcast : (((x % (y : Int)).toNat : Nat) : Int) = x % (y : Int) := Int.toNat_of_nonneg hm.1
      have hgg : Int.gcd (y : Int) ((x % (y : Int)).toNat : Nat) = 1 := by
        rw [hcast, ← hg, Int.gcd_comm x, Int.emod_def, Int.gcd_sub_mul_left_right]
      rcases Nat.mod_two_eq_zero_or_one k with hk | hk
      · obtain ⟨e1, e2⟩ := hE hk
        have s1 := sum_step e1 hxe
        have s2 := sum_step e2 hxe
        have hd := (det_step p q r t a).1
        have h1 := Int.mul_nonneg ha0 r0
        have h2 := Int.mul_nonneg ha0 t0
        have hi := ih _ (by omega) (y : Int) (k + 1) (p + a * r) (q + a * t) r t P Q he (by omega) (by omega) (by omega) hgg (by omega) (by omega) r0 t0 P1 Q1 (fun h => by omega) (fun _ => ⟨by rw [hcast]; exact s1, by rw [hcast]; exact s2⟩) (by omega)
        simp only [BndOk, bndF, if_pos hk]
        exact ⟨⟨hin, by omega, hi.1⟩, hi.2⟩
      · have hk' : ¬ k % 2 = 0 := by omega
        obtain ⟨e1, e2⟩ := hO hk
        have s1 := sum_step e1 hxe
        have s2 := sum_step e2 hxe
        have hd := (det_step p q r t a).2
        have h1 := Int.mul_nonneg ha0 p0
        have h2 := Int.mul_nonneg ha0 q0
        have hi := ih _ (by omega) (y : Int) (k + 1) p q (r + a * p) (t + a * q) P Q he (by omega) (by omega) (by omega) hgg p0 q0 (by omega) (by omega) P1 Q1 (fun _ => ⟨by rw [hcast]; exact s1, by rw [hcast]; exact s2⟩) (fun h => by omega) (by omega)
        simp only [BndOk, bndF, if_neg hk']
        exact ⟨⟨hin, by omega, hi.1⟩, hi.2⟩

theorem decL_rng : ∀ (l : List Int), (∀ z ∈ l, -1000000000 ≤ z ∧ z ≤ 1000000000) → ∀ z ∈ decL l, -1000000001 ≤ z ∧ z ≤ 1000000000
  | [], _, z, hz => by cases hz
  | [y], h, z, hz => by
    simp only [decL, List.mem_singleton] at hz
    have := h y (by simp); omega
  | y :: x :: r, h, z, hz => by
    rw [decL_cons (by simp), List.mem_cons] at hz
    rcases hz with rfl | hz
    · have := h z (by simp); omega
    · exact decL_rng (x :: r) (fun z hz => h z (List.mem_cons_of_mem _ hz)) z hz
theorem pthL_rng {p : Int} {d : Nat} (h1 : -1000000000 ≤ p) (h2 : p ≤ 1000000000) (h3 : d ≤ 1000000000) : ∀ z ∈ pthL p d, -1000000001 ≤ z ∧ z ≤ 1000000000 := by
  intro z hz
  unfold pthL at hz
  split at hz
  · cases hz
  · exact decL_rng _ (expN_rng d p h1 h2 h3) z hz
theorem pthL_len (p : Int) (d : Nat) : (pthL p d).length ≤ d := by
  unfold pthL
  split
  · exact Nat.zero_le _
  · rw [decL_len]; exact expN_len d p
/-- The last term is 1: the path is empty. -/
theorem pthL_one {p : Int} {d m : Nat} (hd : 0 < d) (hl : (expN p d).length = m + 1) (h : (expN p d)[m]? = some 1) : m = 0 ∧ pthL p d = [] := by
  have hm := expN_one hd hl h
  subst hm
  refine ⟨rfl, ?_⟩
  unfold pthL
  rw [if_pos]
  match hq : expN p d, hl, h with
  | [y], _, h => simp at h; subst h; rfl
theorem pthL_set {p : Int} {d m : Nat} {z : Int} (hl : (expN p d).length = m + 1) (h : (expN p d)[m]? = some z) (hz : z ≠ 1) : pthL p d = (expN p d).set m (z - 1) := by
  have e := decL_set _ m z hl h
  unfold pthL
  rw [e, if_neg]
  intro h0
  have h1 : m = 0 := by have := congrArg List.length h0; rw [List.length_set, hl] at this; simp at this; omega
  subst h1
  have := congrArg (fun l => l[0]?) h0
  simp only [List.getElem?_set_self (show 0 < (expN p d).length by omega)] at this
  simp at this
  omega

/-- The bounds of a plain positive fraction. -/
def bndP (p : Int) (d : Nat) : Int × Int × Int × Int := bndF (pthL p d) 0 (0, 1, 1, 0)
theorem bnd_path {p : Int} {d : Nat} (hv : vfB p d = true) (hp : 0 < p) :
    BndOk (pthL p d) 0 (0, 1, 1, 0) ∧ (bndP p d).1 + (bndP p d).2.2.1 = p ∧ (bndP p d).2.1 + (bndP p d).2.2.2 = d ∧ (bndP p d).2.2.1 * (bndP p d).2.1 - (bndP p d).1 * (bndP p d).2.2.2 = 1 := by
  obtain ⟨v1, v2, v3, v4, v5⟩ := vfB_iff.1 hv
  have h := bnd_main d p 0 0 1 1 0 p d (by omega) (by omega) v4 (by omega) v5 (by omega) (by omega) (by omega) (by omega) v4 v2 (fun _ => ⟨by omega, by omega⟩) (fun h => by omega) (by omega)
  unfold bndP pthL
  split
  · rename_i h0
    rw [h0] at h
    refine ⟨?_, ?_⟩
    · show BndIn _
      unfold BndIn; simp
    · simpa [bndF] using h.2
  · exact h
theorem BndOk.last : ∀ {l : List Int} {k : Nat} {s : Int × Int × Int × Int}, BndOk l k s → BndIn (bndF l k s)
  | [], _, _, h => h
  | n :: l, k, (p, q, r, t), h => by rw [bndF]; exact h.2.2.last
end Go.Proofs.Ytlpglibnjmjjkaa
