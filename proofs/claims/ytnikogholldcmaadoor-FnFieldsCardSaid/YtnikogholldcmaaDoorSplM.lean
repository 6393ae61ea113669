/-
  Texts cut at a byte: plain laws.
  No condition.
-/
import Derived.Test.YtnikogholldcmaaDoorProg
import Derived.Lib.SplitLaws
namespace Go.Proofs.YtnikogholldcmaaDoor
open Go.Lib
set_option linter.unusedVariables false

/-- Bytes laid before the first piece. -/
def preP (p : List UInt8) : List (List UInt8) → List (List UInt8)
  | [] => [p]
  | h :: t => (p ++ h) :: t
/-- The pieces of a text between bytes c. -/
def splL (c : UInt8) : List UInt8 → List (List UInt8)
  | [] => [[]]
  | b :: r => if b = c then [] :: splL c r else preP [b] (splL c r)
theorem preP_nil {x : List (List UInt8)} (h : x ≠ []) : preP [] x = x := by
  match x, h with
  | a :: r, _ => rfl
theorem preP_pre (p q : List UInt8) (x : List (List UInt8)) : preP p (preP q x) = preP (p ++ q) x := by
  cases x with
  | nil => rfl
  | cons a r => show (p ++ (q ++ a)) :: r = (p ++ q ++ a) :: r; rw [List.append_assoc]
theorem splL_ne (c : UInt8) : ∀ l, splL c l ≠ []
  | [] => by simp [splL]
  | b :: r => by
    unfold splL
    split
    · simp
    · match hs : splL c r with
      | [] => exact absurd hs (splL_ne c r)
      | a :: t => simp [preP]
theorem splL_eq (c : UInt8) (r : List UInt8) : splL c (c :: r) = [] :: splL c r := by rw [splL, if_pos rfl]
theorem splL_cons {b c : UInt8} (h : b ≠ c) (r : List UInt8) : splL c (b :: r) = preP [b] (splL c r) := by rw [splL, if_neg h]
theorem splL_len (c : UInt8) : ∀ l, (splL c l).length = l.count c + 1
  | [] => rfl
  | b :: r => by
    have ih := splL_len c r
    by_cases h : b = c
    · subst h
      rw [splL_eq, List.length_cons, ih, List.count_cons_self]
    · rw [splL_cons h, List.count_cons_of_ne (fun e => h e)]
      match hs : splL c r with
      | [] => exact absurd hs (splL_ne c r)
      | a :: t => rw [← ih, hs]; rfl
theorem splL_none (c : UInt8) : ∀ l, l.count c = 0 → splL c l = [l]
  | [], _ => rfl
  | b :: r, h => by
    have hb : b ≠ c := fun e => by subst e; rw [List.count_cons_self] at h; omega
    rw [List.count_cons_of_ne (fun e => hb e)] at h
    rw [splL_cons hb, splL_none c r h]; rfl
theorem index_cons (b c : UInt8) (l : List UInt8) : index (b :: l) [c] = if b = c then 0 else if index l [c] = -1 then -1 else index l [c] + 1 := by
  rw [index]
  by_cases h : b = c
  · subst h; simp
  · have : ¬ c = b := fun e => h e.symm
    simp [h, this]
theorem index_none (c : UInt8) : ∀ l, index l [c] = -1 → l.count c = 0
  | [], _ => rfl
  | b :: r, h => by
    rw [index_cons] at h
    have hge := index_ge r [c]
    split at h
    · omega
    · rename_i hb
      split at h
      · rename_i h1
        rw [List.count_cons_of_ne (fun e => hb e)]
        exact index_none c r h1
      · omega
/-- The library's pieces are those. -/
theorem splitK_spl (c : UInt8) : ∀ (l : List UInt8) (k : Nat), l.count c ≤ k → splitK [c] 0 k l = splL c l
  | [], k, _ => by
    cases k with
    | zero => rfl
    | succ k => rw [splitK, if_pos (by rfl)]; rfl
  | b :: r, k, h => by
    by_cases hb : b = c
    · subst hb
      rw [List.count_cons_self] at h
      obtain ⟨j, rfl⟩ : ∃ j, k = j + 1 := ⟨k - 1, by omega⟩
      have hi : index (b :: r) [b] = 0 := by rw [index_cons, if_pos rfl]
      rw [splitK, hi, if_neg (by decide), splL_eq]
      show ([] : List UInt8) :: splitK [b] 0 j r = [] :: splL b r
      rw [splitK_spl b r j (by omega)]
    · rw [List.count_cons_of_ne (fun e => hb e)] at h
      have ih := splitK_spl c r k h
      rw [splL_cons hb, ← ih]
      cases k with
      | zero => rfl
      | succ j =>
        rw [splitK, splitK, index_cons, if_neg hb]
        have hge := index_ge r [c]
        by_cases h1 : index r [c] = -1
        · rw [if_pos h1, if_pos (by rfl), if_pos (by rw [h1]; rfl)]; rfl
        · rw [if_neg h1, if_neg (by rw [beq_iff_eq]; omega), if_neg (by rw [beq_iff_eq]; exact h1)]
          obtain ⟨i, hi⟩ : ∃ i : Nat, index r [c] = i := ⟨(index r [c]).toNat, by omega⟩
          rw [hi]
          have e1 : ((i : Int) + 1).toNat = i + 1 := by omega
          have e2 : (i : Int).toNat = i := by omega
          rw [e1, e2]
          simp [preP]
theorem splitB_spl (c : UInt8) (s : ByteArray) : (splitB ⟨#[c]⟩ 0 (countB s ⟨#[c]⟩) s).map (·.data.toList) = splL c s.data.toList := by
  rw [splitB_data]
  refine splitK_spl c _ _ ?_
  have : countB s ⟨#[c]⟩ = s.data.toList.count c := count_one c s.data.toList
  omega
theorem countB_spl (c : UInt8) (s : ByteArray) : countB s ⟨#[c]⟩ + 1 = (splL c s.data.toList).length := by
  rw [splL_len]
  have : countB s ⟨#[c]⟩ = s.data.toList.count c := count_one c s.data.toList
  omega
/-- The pieces found so far, and the one that is open. -/
def SpAt (c : UInt8) (l : List UInt8) (i f : Nat) (done : List (List UInt8)) : Prop := splL c l = done ++ preP ((l.take i).drop f) (splL c (l.drop i))
theorem SpAt.start (c : UInt8) (l : List UInt8) : SpAt c l 0 0 [] := by
  unfold SpAt
  rw [List.take_zero, List.drop_zero, List.nil_append]
  exact (preP_nil (splL_ne c l)).symm
theorem SpAt.hit {c : UInt8} {l : List UInt8} {i f : Nat} {done : List (List UInt8)} (h : SpAt c l i f done) (hc : l[i]? = some c) : SpAt c l (i + 1) (i + 1) (done ++ [(l.take i).drop f]) := by
  have hl : i < l.length := by
    rcases Nat.lt_or_ge i l.length with h' | h'
    · exact h'
    · rw [List.getElem?_eq_none h'] at hc; cases hc
  have hd : l.drop i = c :: l.drop (i + 1) := by
    rw [List.drop_eq_getElem_cons hl]
    rw [List.getElem?_eq_getElem hl] at hc
    injection hc with hc
    rw [hc]
  unfold SpAt at *
  have e : (l.take (i + 1)).drop (i + 1) = [] := List.drop_of_length_le (by rw [List.length_take]; omega)
  rw [h, hd, splL_eq, List.append_assoc, e, preP_nil (splL_ne _ _)]
  simp [preP]
theorem SpAt.miss {c b : UInt8} {l : List UInt8} {i f : Nat} {done : List (List UInt8)} (h : SpAt c l i f done) (hb : l[i]? = some b) (hbc : b ≠ c) (hf : f ≤ i) : SpAt c l (i + 1) f done := by
  have hl : i < l.length := by
    rcases Nat.lt_or_ge i l.length with h' | h'
    · exact h'
    · rw [List.getElem?_eq_none h'] at hb; cases hb
  have hd : l.drop i = b :: l.drop (i + 1) := by
    rw [List.drop_eq_getElem_cons hl]
    rw [List.getElem?_eq_getElem hl] at hb
    injection hb with hb
    rw [hb]
  have ht : (l.take (i + 1)).drop f = (l.take i).drop f ++ [b] := by
    rw [List.take_add_one, hb]
    rw [List.drop_append_of_le_length (by rw [List.length_take]; omega)]; rfl
  unfold SpAt at *
  rw [h, hd, splL_cons hbc, preP_pre, ht]
theorem SpAt.done {c : UInt8} {l : List UInt8} {i f : Nat} {dn : List (List UInt8)} (h : SpAt c l i f dn) (hi : l.length ≤ i) : splL c l = dn ++ [l.drop f] := by
  unfold SpAt at h
  rw [h, List.drop_of_length_le hi, List.take_of_length_le hi]
  simp [splL, preP]
end Go.Proofs.YtnikogholldcmaaDoor
