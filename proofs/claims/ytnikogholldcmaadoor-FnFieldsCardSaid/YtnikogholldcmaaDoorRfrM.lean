/-
  Fractions read from texts: plain laws.
  No condition.
-/
import Derived.Test.YtnikogholldcmaaDoorProg
import Derived.Test.YtnikogholldcmaaDoorMem
import Derived.Test.YtnikogholldcmaaDoorFrac
import Derived.Test.YtnikogholldcmaaDoorNumM
import Derived.Test.YtnikogholldcmaaDoorDec
import Derived.Test.YtnikogholldcmaaDoorFtx
import Derived.Test.YtnikogholldcmaaDoorRdd
import Derived.Test.YtnikogholldcmaaDoorTtx
import Derived.Test.YtnikogholldcmaaDoorSplM
namespace Go.Proofs.YtnikogholldcmaaDoor
open Go.Lib
set_option linter.unusedVariables false

theorem itoa_one : itoa 1 = [49] := by
  unfold itoa
  rw [if_neg (by omega)]
  show decDigits 1 = _
  rw [dec_small (by omega)]; rfl
theorem rd_one : rdB [49] = true ∧ valI [49] = 1 := by
  have h := rdB_itoa (n := 1) (by decide)
  have h' := val_itoa 1
  rw [itoa_one] at h h'
  exact ⟨h, h'⟩
/-- The fraction that pieces spell. -/
def rfP : List (List UInt8) → Option (Int × Int)
  | [a] => if rdB a = true ∧ vfB (valI a) 1 = true then some (valI a, 1) else none
  | [a, b] => if rdB a = true ∧ rdB b = true ∧ valI b ≠ 1 ∧ vfB (valI a) (valI b) = true then some (valI a, valI b) else none
  | _ => none
/-- The fraction that a text spells. -/
def rfO (s : ByteArray) : Option (Int × Int) := rfP (splL 47 s.data.toList)
def rfT (s : ByteArray) : Int × Int × Bool := match rfO s with
  | some z => (z.1, z.2, true)
  | none => (0, 0, false)
theorem rfT_some {s : ByteArray} {z : Int × Int} (h : rfO s = some z) : rfT s = (z.1, z.2, true) := by unfold rfT; rw [h]
theorem rfT_none {s : ByteArray} (h : rfO s = none) : rfT s = (0, 0, false) := by unfold rfT; rw [h]
theorem rd_no47 {b : List UInt8} (h : rdB b = true) : b.count 47 = 0 := by
  rw [List.count_eq_zero]
  intro hm
  have hb := itoa_bytes (valI b) 47 (by rw [(rdB_iff.1 h).2]; exact hm)
  have : (47 : UInt8).toNat = 47 := by decide
  omega
/-- A text without the byte. -/
theorem cut_none {l : List UInt8} (h : index l [47] = -1) : cut l [47] = (l, [], false) ∧ splL 47 l = [l] := by
  refine ⟨?_, splL_none 47 l (index_none 47 l h)⟩
  unfold cut
  rw [if_neg (by omega)]
theorem index_hit (c : UInt8) : ∀ (l : List UInt8) (i : Nat), index l [c] = i → l = l.take i ++ c :: l.drop (i + 1) ∧ splL c l = l.take i :: splL c (l.drop (i + 1))
  | [], i, h => by rw [index] at h; simp at h
  | b :: r, i, h => by
    rw [index_cons] at h
    by_cases hb : b = c
    · rw [if_pos hb] at h
      have : i = 0 := by omega
      subst this hb
      exact ⟨rfl, splL_eq b r⟩
    · rw [if_neg hb] at h
      have hge := index_ge r [c]
      split at h
      · omega
      · obtain ⟨j, rfl⟩ : ∃ j, i = j + 1 := ⟨i - 1, by omega⟩
        obtain ⟨h1, h2⟩ := index_hit c r j (by omega)
        refine ⟨?_, ?_⟩
        · show b :: r = b :: (r.take j ++ c :: r.drop (j + 1))
          rw [← h1]
        · rw [splL_cons hb, h2]; rfl
theorem cut_some {l : List UInt8} (h : index l [47] ≠ -1) : ∃ a b, cut l [47] = (a, b, true) ∧ l = a ++ 47 :: b ∧ splL 47 l = a :: splL 47 b := by
  have hge := index_ge l [47]
  obtain ⟨i, hi⟩ : ∃ i : Nat, index l [47] = i := ⟨(index l [47]).toNat, by omega⟩
  obtain ⟨h1, h2⟩ := index_hit 47 l i hi
  refine ⟨l.take i, l.drop (i + 1), ?_, h1, h2⟩
  unfold cut
  rw [hi, if_pos (by omega)]
  have e2 : (i : Int).toNat = i := by omega
  rw [e2]; rfl
theorem rfP_two {a b : List UInt8} : rfP (a :: splL 47 b) = if rdB a = true ∧ rdB b = true ∧ valI b ≠ 1 ∧ vfB (valI a) (valI b) = true then some (valI a, valI b) else none := by
  by_cases hc : b.count 47 = 0
  · rw [splL_none 47 b hc]; rfl
  · have hb : rdB b = false := by
      cases h : rdB b
      · rfl
      · exact absurd (rd_no47 h) hc
    rw [if_neg (by rw [hb]; simp)]
    have hl := splL_len 47 b
    match hs : splL 47 b, hl with
    | [], hl => simp at hl
    | [x], hl => simp at hl; omega
    | x :: y :: r, _ => rfl
/-- What the program finds where the byte stands in the text. -/
theorem rf_two {s : ByteArray} {a b : List UInt8} (h : s.data.toList = a ++ 47 :: b) (hs : splL 47 s.data.toList = a :: splL 47 b) :
    (rdB a = false ∨ rdB b = false → rfO s = none) ∧ (rdB a = true → rdB b = true → (frS (valI a) (valI b) = s ∧ rfO s = some (valI a, valI b)) ∨ (frS (valI a) (valI b) ≠ s ∧ rfO s = none)) := by
  have e : rfO s = if rdB a = true ∧ rdB b = true ∧ valI b ≠ 1 ∧ vfB (valI a) (valI b) = true then some (valI a, valI b) else none := by
    unfold rfO; rw [hs, rfP_two]
  refine ⟨fun h => ?_, fun ha hb => ?_⟩
  · rw [e, if_neg]
    rintro ⟨h1, h2, _⟩
    rw [h1, h2] at h
    rcases h with h | h <;> cases h
  · have ea := (rdB_iff.1 ha).2
    have eb := (rdB_iff.1 hb).2
    have hne : ∀ x y : Int, frS x y = s → (frS x y).data.toList = a ++ 47 :: b := fun x y k => by rw [k, h]
    by_cases hv : vfB (valI a) (valI b) = true
    · by_cases h1 : valI b = 1
      · right
        refine ⟨fun k => ?_, by rw [e, if_neg (fun k => k.2.2.1 h1)]⟩
        have := hne _ _ k
        unfold frS at this
        rw [if_pos hv, if_pos h1, decS_data, ea] at this
        have := congrArg List.length this
        simp at this
      · left
        refine ⟨?_, by rw [e, if_pos ⟨ha, hb, h1, hv⟩]⟩
        refine str_ext ?_
        unfold frS
        rw [if_pos hv, if_neg h1, data_app, data_app, decS_data, decS_data, ea, eb, h]
        simp
    · right
      refine ⟨fun k => ?_, by rw [e, if_neg (fun k => hv k.2.2.2)]⟩
      have := hne _ _ k
      unfold frS at this
      rw [if_neg hv] at this
      have := congrArg List.length this
      simp at this
theorem rf_one {s : ByteArray} (hs : splL 47 s.data.toList = [s.data.toList]) :
    (rdB s.data.toList = false → rfO s = none) ∧ (rdB s.data.toList = true → (frS (valI s.data.toList) 1 = s ∧ rfO s = some (valI s.data.toList, 1)) ∨ (frS (valI s.data.toList) 1 ≠ s ∧ rfO s = none)) := by
  have e : rfO s = if rdB s.data.toList = true ∧ vfB (valI s.data.toList) 1 = true then some (valI s.data.toList, 1) else none := by
    unfold rfO; rw [hs]; rfl
  refine ⟨fun h => by rw [e, if_neg (by rw [h]; simp)], fun ha => ?_⟩
  have ea := (rdB_iff.1 ha).2
  have hne := (rdB_form ha).2.2.2.1
  by_cases hv : vfB (valI s.data.toList) 1 = true
  · left
    refine ⟨?_, by rw [e, if_pos ⟨ha, hv⟩]⟩
    unfold frS
    rw [if_pos hv, if_pos rfl]
    exact decS_eq.2 ea
  · right
    refine ⟨fun k => ?_, by rw [e, if_neg (fun k => hv k.2)]⟩
    unfold frS at k
    rw [if_neg hv] at k
    have : s.data.toList = [] := by rw [← k]
    rw [this] at hne
    exact hne rfl
end Go.Proofs.YtnikogholldcmaaDoor
