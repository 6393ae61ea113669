/-
  Drawn terms: contracts of the reference's l03Draw and A2Terms.
  No condition but those of the law's own text.
-/
import Derived.Test.YtlpglibnjmjjkaaProg
import Derived.Test.YtlpglibnjmjjkaaMem
import Derived.Test.YtlpglibnjmjjkaaBasic
import Derived.Test.YtlpglibnjmjjkaaSig
import Derived.Test.YtlpglibnjmjjkaaFrac
import Derived.Test.YtlpglibnjmjjkaaOwn
import Derived.Test.YtlpglibnjmjjkaaShort
import Derived.Test.YtlpglibnjmjjkaaSrc
import Derived.Handy
import Derived.BigQuiet
import Derived.Deep.QuietTactic
import Derived.Deep.AppendLies
namespace Go.Proofs.Ytlpglibnjmjjkaa
open Go.RowKit
set_option linter.unusedVariables false
set_option linter.unusedSimpArgs false
attribute [local go_sem ↓] Go.wp_at_zero Go.wp_at_succ

theorem own_kg {g : Nat} {w w' : World} {base e size n : Nat} {v : Value} {xs : List Value} (h : w.ownsRow base e size v n xs) (hk : Kg g w w') (hg : g < base) : w'.ownsRow base e size v n xs := by
  refine ⟨h.1, ?_⟩
  rcases h.2 with hn | ⟨b, cap, cur, rfl, hbb, hgg, rest⟩
  · exact .inl hn
  · refine .inr ⟨b, cap, cur, rfl, hbb, ?_, rest⟩
    rw [hk.2 b (Array.getElem?_eq_some_iff.1 hgg).1 (by omega)]
    exact hgg
/-- Drawn terms. -/
def DrwT (fs : List Int) : Prop := ∀ (j : Nat) z, fs[j]? = some z → (if j = 0 then -10 else 1) ≤ z ∧ z ≤ 60
theorem DrwT.one {z : Int} (h1 : -10 ≤ z) (h2 : z ≤ 60) : DrwT [z] := fun j y h => by
  cases j with
  | zero => simp at h; subst h; simp; omega
  | succ j => cases h
theorem DrwT.app {fs : List Int} {z : Int} (h : DrwT fs) (hl : 1 ≤ fs.length) (h1 : 1 ≤ z) (h2 : z ≤ 60) : DrwT (fs ++ [z]) := fun j y hy => by
  rw [List.getElem?_append] at hy
  split at hy
  · exact h j y hy
  · rename_i hj
    have : y = z := by
      cases hk : j - fs.length with
      | zero => rw [hk] at hy; simp at hy; exact hy.symm
      | succ i => rw [hk] at hy; simp at hy
    subst this
    rw [if_neg (by omega)]; omega
theorem St.grown {g : Nat} {A : Option Addr} {n cap K : Nat} {w0 w w1 : World} {row : Option Nat} (h : St g A n cap K w0 w) (hg : w.grownBy w1 row) (hr : row ≠ some g) (hB : ∀ k, row = some k → w0.heap.size ≤ k) : St g A n cap K w0 w1 := by
  have hl := h.lt
  obtain ⟨⟨k, h1, c0, c1, f1, f2, s, s0, s1, c2⟩, h3⟩ := h
  have e : w1.heap[g]? = w.heap[g]? := hg.block g hl (fun e => hr e.symm)
  have ec : ∀ o, w1.cell? ⟨g, o, none⟩ = w.cell? ⟨g, o, none⟩ := fun o => World.cell?_of_block (w := w) e
  have ef : ∀ o, w1.frozen? ⟨g, o, none⟩ = w.frozen? ⟨g, o, none⟩ := fun o => World.frozen?_of_block (w := w) e
  exact ⟨⟨k, h1, (ec 0).trans c0, (ec 1).trans c1, (ef 1).trans f1, (ef 2).trans f2, s, s0, s1, (ec 2).trans c2⟩, h3.grown hg h3.size hB⟩
end Go.Proofs.Ytlpglibnjmjjkaa
