/-
  Plain words on lists: a test of every element with its place.
  No condition.
-/
import Derived.Test.YtlpglibnjmjjkaaMem
import Derived.Test.YtlpglibnjmjjkaaBasic
namespace Go.Proofs.Ytlpglibnjmjjkaa
open Go.RowKit
set_option linter.unusedVariables false

/-- Every element, with its place, passes the test. -/
def allK {α : Type} (f : Nat → α → Bool) : Nat → List α → Bool
  | _, [] => true
  | k, z :: r => f k z && allK f (k + 1) r
theorem allK_t {α : Type} (f : Nat → α → Bool) : ∀ (zs : List α) (b : Nat), (∀ k z, zs[k]? = some z → f (b + k) z = true) → allK f b zs = true
  | [], b, _ => rfl
  | z :: r, b, h => by
    unfold allK
    rw [show f b z = true from h 0 z rfl, allK_t f r (b + 1) (fun k y hy => by have := h (k + 1) y (by simpa using hy); rwa [show b + (k + 1) = b + 1 + k from by omega] at this)]
    rfl
theorem allK_f {α : Type} (f : Nat → α → Bool) : ∀ (zs : List α) (b k : Nat) (z : α), zs[k]? = some z → f (b + k) z = false → allK f b zs = false
  | [], b, k, z, h, _ => by simp at h
  | y :: r, b, 0, z, h, h' => by
    simp at h; subst h
    unfold allK; rw [show f b y = false from h']; rfl
  | y :: r, b, k + 1, z, h, h' => by
    unfold allK
    rw [allK_f f r (b + 1) k z (by simpa using h) (by rw [show b + 1 + k = b + (k + 1) from by omega]; exact h')]
    simp
theorem allK_at {α : Type} (f : Nat → α → Bool) : ∀ (zs : List α) (b k : Nat) (z : α), allK f b zs = true → zs[k]? = some z → f (b + k) z = true := fun zs b k z h hz => by
  cases hf : f (b + k) z
  · rw [allK_f f zs b k z hz hf] at h; cases h
  · rfl
/-- All the elements before place k pass. -/
def Upto {α : Type} (f : Nat → α → Bool) (zs : List α) (k : Nat) : Prop := ∀ j z, j < k → zs[j]? = some z → f j z = true
theorem Upto.zero {α : Type} (f : Nat → α → Bool) (zs : List α) : Upto f zs 0 := fun j z h _ => by omega
theorem Upto.step {α : Type} {f : Nat → α → Bool} {zs : List α} {k : Nat} {z : α} (h : Upto f zs k) (hz : zs[k]? = some z) (hf : f k z = true) : Upto f zs (k + 1) := fun j y hj hy => by
  rcases Nat.lt_or_ge j k with hlt | hge
  · exact h j y hlt hy
  · obtain rfl : j = k := by omega
    rw [hz] at hy; injection hy with hy; subst hy; exact hf
theorem Upto.all {α : Type} {f : Nat → α → Bool} {zs : List α} {k : Nat} (h : Upto f zs k) (hk : zs.length ≤ k) : allK f 0 zs = true :=
  allK_t f zs 0 fun j z hz => by
    rw [Nat.zero_add]
    refine h j z ?_ hz
    rcases Nat.lt_or_ge j zs.length with hlt | hge
    · omega
    · rw [List.getElem?_eq_none hge] at hz; cases hz

/-- Runs are a path. -/
def pthE (n : Nat) (k : Nat) (z : Int) : Bool := inB z (if k = 0 ∧ 1 < n then 0 else 1) 1000000000
def pthB (zs : List Int) : Bool := decide (zs.length ≤ 60) && allK (pthE zs.length) 0 zs
/-- A list is one of terms. -/
def trmE (k : Nat) (z : Int) : Bool := inB z (if k = 0 then -1000000000 else 1) 1000000000
def trmB (zs : List Int) : Bool := inB (zs.length : Int) 1 60 && allK trmE 0 zs
theorem trmB_iff {zs : List Int} : trmB zs = true ↔ 1 ≤ zs.length ∧ zs.length ≤ 60 ∧ ∀ k z, zs[k]? = some z → (if k = 0 then -1000000000 else 1) ≤ z ∧ z ≤ 1000000000 := by
  unfold trmB
  rw [Bool.and_eq_true, inB_iff]
  constructor
  · rintro ⟨⟨h1, h2⟩, h3⟩
    refine ⟨by omega, by omega, fun k z hz => ?_⟩
    have := allK_at trmE zs 0 k z h3 hz
    rw [Nat.zero_add] at this
    exact inB_iff.1 this
  · rintro ⟨h1, h2, h3⟩
    refine ⟨⟨by omega, by omega⟩, allK_t trmE zs 0 fun k z hz => ?_⟩
    rw [Nat.zero_add]
    exact inB_iff.2 (h3 k z hz)
end Go.Proofs.Ytlpglibnjmjjkaa
