/-
  Terms with signs read from texts: plain laws.
  No condition.
-/
import Derived.Test.YtnikogholldcmaaDoorProg
import Derived.Test.YtnikogholldcmaaDoorMem
import Derived.Test.YtnikogholldcmaaDoorNumM
import Derived.Test.YtnikogholldcmaaDoorSgn
import Derived.Test.YtnikogholldcmaaDoorSgtM
import Derived.Test.YtnikogholldcmaaDoorSgt
import Derived.Test.YtnikogholldcmaaDoorSplM
import Derived.Test.YtnikogholldcmaaDoorTtx
namespace Go.Proofs.YtnikogholldcmaaDoor
open Go.Lib
set_option linter.unusedVariables false

/-- Pieces with blanks between them. -/
def jnT : List (List UInt8) → List UInt8
  | [] => []
  | p :: r => 32 :: (p ++ jnT r)
def jnL : List (List UInt8) → List UInt8
  | [] => []
  | p :: r => p ++ jnT r
theorem splL_app (c : UInt8) : ∀ (a b : List UInt8), a.count c = 0 → splL c (a ++ c :: b) = a :: splL c b
  | [], b, _ => splL_eq c b
  | x :: a, b, h => by
    have hx : x ≠ c := fun e => by subst e; rw [List.count_cons_self] at h; omega
    rw [List.count_cons_of_ne (fun e => hx e)] at h
    rw [List.cons_append, splL_cons hx, splL_app c a b h]; rfl
theorem splL_jn : ∀ (ps : List (List UInt8)) (p : List UInt8), (∀ q ∈ p :: ps, q.count 32 = 0) → splL 32 (jnL (p :: ps)) = p :: ps
  | [], p, h => by
    show splL 32 (p ++ []) = _
    rw [List.append_nil, splL_none 32 p (h p (by simp))]
  | q :: ps, p, h => by
    show splL 32 (p ++ 32 :: jnL (q :: ps)) = _
    rw [splL_app 32 p _ (h p (by simp)), splL_jn ps q (fun x hx => h x (by simp at hx ⊢; exact .inr hx))]
theorem jn_pre (b : UInt8) : ∀ ps : List (List UInt8), ps ≠ [] → jnL (preP [b] ps) = b :: jnL ps
  | p :: r, _ => rfl
theorem jn_spl : ∀ l : List UInt8, jnL (splL 32 l) = l
  | [] => rfl
  | b :: r => by
    have ih := jn_spl r
    have hne := splL_ne 32 r
    by_cases hb : b = 32
    · subst hb
      rw [splL_eq]
      match hs : splL 32 r, hne with
      | p :: t, _ =>
        rw [hs] at ih
        show 32 :: (p ++ jnT t) = _
        rw [show p ++ jnT t = r from ih]
    · rw [splL_cons hb, jn_pre b _ hne, ih]
/-- One piece behind the first, read: as the reference reads it, as the program does. -/
def rs1 : List UInt8 → Option (Int × Int)
  | [] => none
  | b :: r => if b = 43 then (if rdB r = true then some (1, valI r) else none) else if b = 45 then (if rdB r = true then some (-1, valI r) else none) else none
def rl1 : List UInt8 → Option (Int × Int)
  | [] => none
  | b :: r => if b = 43 then (if rdB r = true then some (1, valI r) else none) else if b = 45 then (if rdB r = true then some (-1, valI r) else none) else if rdB (b :: r) = true then some (-1, valI (b :: r)) else none
def rd1 (p : List UInt8) : Option (Int × Int) := if rdB p = true then some (1, valI p) else none
def rsE (j : Nat) (p : List UInt8) : Option (Int × Int) := if j = 0 then rd1 p else rs1 p
def rlE (j : Nat) (p : List UInt8) : Option (Int × Int) := if j = 0 then rd1 p else rl1 p
/-- All pieces read. -/
def AllR (E : Nat → List UInt8 → Option (Int × Int)) (ls : List (List UInt8)) (zs : List (Int × Int)) : Prop := zs.length = ls.length ∧ ∀ j p, ls[j]? = some p → E j p = zs[j]?
theorem AllR.uniq {E : Nat → List UInt8 → Option (Int × Int)} {ls : List (List UInt8)} {zs zs' : List (Int × Int)} (h : AllR E ls zs) (h' : AllR E ls zs') : zs = zs' := by
  apply List.ext_getElem?
  intro j
  cases hp : ls[j]? with
  | none =>
    have := List.getElem?_eq_none_iff.1 hp
    rw [List.getElem?_eq_none (by rw [h.1]; exact this), List.getElem?_eq_none (by rw [h'.1]; exact this)]
  | some p => rw [← h.2 j p hp, ← h'.2 j p hp]
/-- The terms with signs that a text spells. -/
def Rg (s : ByteArray) (zs : List (Int × Int)) : Prop := AllR rsE (splL 32 s.data.toList) zs ∧ sgnB zs = true
/-- What is read: the terms and true, or none and false. -/
def RgR (s : ByteArray) (R : List (Int × Int)) (b : Bool) : Prop := (b = true ∧ Rg s R) ∨ (b = false ∧ R = [] ∧ ∀ zs, ¬ Rg s zs)
theorem RgR.exists (s : ByteArray) : ∃ R b, RgR s R b := by
  by_cases h : ∃ zs, Rg s zs
  · obtain ⟨zs, h⟩ := h; exact ⟨zs, true, .inl ⟨rfl, h⟩⟩
  · exact ⟨[], false, .inr ⟨rfl, rfl, fun zs hz => h ⟨zs, hz⟩⟩⟩
theorem RgR.no {s : ByteArray} {R : List (Int × Int)} {b : Bool} (h : RgR s R b) (hn : ∀ zs, ¬ Rg s zs) : b = false ∧ R = [] := by
  rcases h with ⟨_, h⟩ | ⟨h1, h2, _⟩
  · exact absurd h (hn R)
  · exact ⟨h1, h2⟩
theorem RgR.yes {s : ByteArray} {R zs : List (Int × Int)} {b : Bool} (h : RgR s R b) (hz : Rg s zs) : b = true ∧ R = zs := by
  rcases h with ⟨h1, h⟩ | ⟨_, _, h⟩
  · exact ⟨h1, h.1.uniq hz.1⟩
  · exact absurd hz (h zs)
/-- A piece that cannot be read. -/
theorem Rg.not {s : ByteArray} {j : Nat} {p : List UInt8} (h : (splL 32 s.data.toList)[j]? = some p) (he : rsE j p = none) : ∀ zs, ¬ Rg s zs := by
  intro zs hz
  have h1 := hz.1.2 j p h
  rw [he] at h1
  have h2 := List.getElem?_eq_none_iff.1 h1.symm
  have h3 := (List.getElem?_eq_some_iff.1 h).1
  have := hz.1.1
  omega
theorem rs1_p (r : List UInt8) : rs1 (43 :: r) = (if rdB r = true then some (1, valI r) else none) := rfl
theorem rs1_m (r : List UInt8) : rs1 (45 :: r) = (if rdB r = true then some (-1, valI r) else none) := rfl
theorem rs1_o {b : UInt8} (r : List UInt8) (h1 : b ≠ 43) (h2 : b ≠ 45) : rs1 (b :: r) = none := by unfold rs1; simp [h1, h2]
theorem rl1_p (r : List UInt8) : rl1 (43 :: r) = (if rdB r = true then some (1, valI r) else none) := rfl
theorem rl1_m (r : List UInt8) : rl1 (45 :: r) = (if rdB r = true then some (-1, valI r) else none) := rfl
theorem rl1_o {b : UInt8} (r : List UInt8) (h1 : b ≠ 43) (h2 : b ≠ 45) : rl1 (b :: r) = if rdB (b :: r) = true then some (-1, valI (b :: r)) else none := by unfold rl1; simp [h1, h2]
theorem rl_none {j : Nat} {p : List UInt8} (h : rlE j p = none) : rsE j p = none := by
  unfold rlE at h
  unfold rsE
  by_cases hj : j = 0
  · rw [if_pos hj] at h ⊢; exact h
  · rw [if_neg hj] at h ⊢
    match p, h with
    | [], _ => rfl
    | b :: r, h =>
      by_cases h1 : b = 43
      · subst h1; exact h
      · by_cases h2 : b = 45
        · subst h2; exact h
        · exact rs1_o r h1 h2
def sgB (s : Int) : UInt8 := if s < 0 then 45 else 43
/-- The pieces of the text of terms with signs. -/
def pcsR (r : List (Int × Int)) : List (List UInt8) := r.map fun z => sgB z.1 :: itoa z.2
def pcs : List (Int × Int) → List (List UInt8)
  | [] => []
  | z :: r => itoa z.2 :: pcsR r
theorem jnT_pcs : ∀ r : List (Int × Int), jnT (pcsR r) = stL r
  | [] => rfl
  | z :: r => by
    show 32 :: (sgB z.1 :: itoa z.2 ++ jnT (pcsR r)) = mkS z.1 ++ itoa z.2 ++ stL r
    rw [jnT_pcs r]
    unfold sgB mkS
    split <;> simp
theorem jn_pcs (zs : List (Int × Int)) : jnL (pcs zs) = sgL zs := by
  cases zs with
  | nil => rfl
  | cons z r => show itoa z.2 ++ jnT (pcsR r) = itoa z.2 ++ stL r; rw [jnT_pcs]
theorem itoa_no32 (n : Int) : (itoa n).count 32 = 0 := by
  rw [List.count_eq_zero]
  intro hm
  have hb := itoa_bytes n 32 hm
  have : (32 : UInt8).toNat = 32 := by decide
  omega
theorem spl_pcs {zs : List (Int × Int)} (h : zs ≠ []) : splL 32 (sgL zs) = pcs zs := by
  rw [← jn_pcs]
  match zs, h with
  | z :: r, _ =>
    refine splL_jn (pcsR r) (itoa z.2) (fun q hq => ?_)
    rcases List.mem_cons.1 hq with hq | hq
    · rw [hq]; exact itoa_no32 _
    · unfold pcsR at hq
      obtain ⟨y, _, rfl⟩ := List.mem_map.1 hq
      have : (sgB y.1 :: itoa y.2).count 32 = (itoa y.2).count 32 := List.count_cons_of_ne (by unfold sgB; split <;> decide)
      rw [this]; exact itoa_no32 _
theorem rd1_nil : rd1 [] = none := by
  unfold rd1
  rw [if_neg]
  intro h
  exact (rdB_form h).2.2.2.1 rfl
theorem rs_sign {p : List UInt8} {z : Int × Int} (h : rs1 p = some z) : p = sgB z.1 :: itoa z.2 := by
  match p, h with
  | [], h => cases h
  | b :: r, h =>
    by_cases h1 : b = 43
    · subst h1
      rw [rs1_p] at h
      split at h
      · next hr => injection h with h; subst h; show _ = 43 :: itoa (valI r); rw [(rdB_iff.1 hr).2]
      · cases h
    · by_cases h2 : b = 45
      · subst h2
        rw [rs1_m] at h
        split at h
        · next hr => injection h with h; subst h; show _ = 45 :: itoa (valI r); rw [(rdB_iff.1 hr).2]
        · cases h
      · rw [rs1_o r h1 h2] at h; cases h
theorem rl_rs {p : List UInt8} {b : UInt8} {r : List UInt8} (hp : p = b :: r) (h : b = 43 ∨ b = 45) : rl1 p = rs1 p := by
  subst hp
  rcases h with rfl | rfl <;> rfl
/-- Loosely read terms have the text if and only if they are the terms that it spells. -/
theorem rl_text {s : ByteArray} {zs : List (Int × Int)} (h : AllR rlE (splL 32 s.data.toList) zs) : sgS zs = s ↔ Rg s zs := by
  have hne : zs ≠ [] := fun e => by
    have h1 := h.1
    rw [e] at h1
    exact splL_ne 32 s.data.toList (List.eq_nil_of_length_eq_zero h1.symm)
  have h0 : ∀ p, (splL 32 s.data.toList)[0]? = some p → rd1 p = zs[0]? := fun p hp => h.2 0 p hp
  constructor
  · intro e
    have hv : sgnB zs = true := by
      cases hv : sgnB zs
      · exfalso
        rw [show sgS zs = ⟨#[]⟩ from if_neg (by rw [hv]; decide)] at e
        rw [← e] at h0
        have := h0 [] rfl
        rw [rd1_nil] at this
        match zs, hne with
        | z :: r, _ => cases this
      · rfl
    refine ⟨⟨h.1, fun j p hp => ?_⟩, hv⟩
    rw [← h.2 j p hp]
    unfold rsE rlE
    split
    · rfl
    · next hj =>
      have hd : s.data.toList = sgL zs := by
        rw [← e, show sgS zs = ⟨(sgL zs).toArray⟩ from if_pos hv, data_mk]
      rw [hd, spl_pcs hne] at hp
      match zs, hne with
      | z :: r, _ =>
        obtain ⟨i, rfl⟩ : ∃ i, j = i + 1 := ⟨j - 1, by omega⟩
        have hp' : (pcsR r)[i]? = some p := hp
        unfold pcsR at hp'
        rw [List.getElem?_map] at hp'
        cases hy : r[i]? with
        | none => rw [hy] at hp'; cases hp'
        | some y =>
          rw [hy] at hp'
          injection hp' with hp'
          exact (rl_rs hp'.symm (by unfold sgB; split; exact .inr rfl; exact .inl rfl)).symm
  · intro hR
    refine str_ext ?_
    rw [show sgS zs = ⟨(sgL zs).toArray⟩ from if_pos hR.2, data_mk, ← jn_pcs, ← jn_spl s.data.toList]
    congr 1
    match zs, hne with
    | z :: r, _ =>
      apply List.ext_getElem?
      intro j
      cases hp : (splL 32 s.data.toList)[j]? with
      | none =>
        have hl := List.getElem?_eq_none_iff.1 hp
        rw [List.getElem?_eq_none]
        have := hR.1.1
        show (itoa z.2 :: pcsR r).length ≤ j
        unfold pcsR
        simp at this ⊢; omega
      | some p =>
        have hz := hR.1.2 j p hp
        cases j with
        | zero =>
          have hz : rd1 p = some z := hz
          unfold rd1 at hz
          split at hz
          · next hr =>
            injection hz with hz
            show some (itoa z.2) = some p
            rw [← hz, (rdB_iff.1 hr).2]
          · cases hz
        | succ i =>
          have hz : rs1 p = r[i]? := hz
          show (pcsR r)[i]? = some p
          unfold pcsR
          rw [List.getElem?_map]
          cases hy : r[i]? with
          | none =>
            exfalso
            have h1 := List.getElem?_eq_none_iff.1 hy
            have h2 := (List.getElem?_eq_some_iff.1 hp).1
            have := hR.1.1
            simp at this; omega
          | some y =>
            rw [hy] at hz
            rw [rs_sign hz]; rfl
theorem AllR.start {E : Nat → List UInt8 → Option (Int × Int)} : AllR E [] [] := ⟨rfl, fun j p h => by simp at h⟩
theorem AllR.step {E : Nat → List UInt8 → Option (Int × Int)} {ls : List (List UInt8)} {k : Nat} {p : List UInt8} {zs : List (Int × Int)} {z : Int × Int} (h : AllR E (ls.take k) zs) (hp : ls[k]? = some p) (hz : E k p = some z) : AllR E (ls.take (k + 1)) (zs ++ [z]) := by
  have hk := (List.getElem?_eq_some_iff.1 hp).1
  have hl : zs.length = k := by rw [h.1, List.length_take]; omega
  refine ⟨by rw [List.length_append, hl, List.length_take]; simp; omega, fun j q hq => ?_⟩
  rw [List.getElem?_take] at hq
  split at hq
  · next hj =>
    by_cases hjk : j = k
    · subst hjk
      rw [hp] at hq
      injection hq with hq
      rw [← hq, hz, List.getElem?_append_right (by omega), hl]; simp
    · rw [List.getElem?_append_left (by omega)]
      exact h.2 j q (by rw [List.getElem?_take, if_pos (by omega)]; exact hq)
  · cases hq
theorem AllR.all {E : Nat → List UInt8 → Option (Int × Int)} {ls : List (List UInt8)} {zs : List (Int × Int)} (h : AllR E (ls.take ls.length) zs) : AllR E ls zs := by rwa [List.take_length] at h
end Go.Proofs.YtnikogholldcmaaDoor
