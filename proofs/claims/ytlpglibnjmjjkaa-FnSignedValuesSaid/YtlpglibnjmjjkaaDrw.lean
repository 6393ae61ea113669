/-
  Three drawn fractions: contract of the reference's A2Fractions.
  No condition but those of the law's own text.
-/
import Derived.Test.YtlpglibnjmjjkaaProg
import Derived.Test.YtlpglibnjmjjkaaMem
import Derived.Test.YtlpglibnjmjjkaaBasic
import Derived.Test.YtlpglibnjmjjkaaSig
import Derived.Test.YtlpglibnjmjjkaaFrac
import Derived.Test.YtlpglibnjmjjkaaOwn
import Derived.Test.YtlpglibnjmjjkaaSrc
import Derived.Handy
import Derived.BigQuiet
import Derived.RegionTactic
import Derived.BigRegion
import Derived.Deep.QuietTactic
import Derived.Deep.RegionHeld3
import Derived.Deep.DeepCutAuto
namespace Go.Proofs.Ytlpglibnjmjjkaa
open Go.RowKit
set_option linter.unusedVariables false
set_option linter.unusedSimpArgs false
attribute [local go_sem ↓] Go.wp_at_zero Go.wp_at_succ

/-- Two cells of a block that lies apart from the source. -/
def Pr (w : World) (b : Nat) (x y : Int) : Prop := w.cell? ⟨b, 0, none⟩ = some (.int .i64 x) ∧ w.cell? ⟨b, 1, none⟩ = some (.int .i64 y) ∧ w.frozen? ⟨b, 0, none⟩ = false ∧ w.frozen? ⟨b, 1, none⟩ = false
theorem Pr.lt {w : World} {b : Nat} {x y : Int} (h : Pr w b x y) : b < w.heap.size := World.block_lt_of_cell? w _ h.1
theorem Pr.kg {g : Nat} {w w1 : World} {b : Nat} {x y : Int} (h : Pr w b x y) (hk : Kg g w w1) (hb : b ≠ g) : Pr w1 b x y :=
  ⟨(hk.cell (p := ⟨b, 0, none⟩) h.lt hb).trans h.1, (hk.cell (p := ⟨b, 1, none⟩) h.lt hb).trans h.2.1, (hk.frozen (p := ⟨b, 0, none⟩) h.lt hb).trans h.2.2.1, (hk.frozen (p := ⟨b, 1, none⟩) h.lt hb).trans h.2.2.2⟩
theorem Pr.below {w w1 : World} {b : Nat} {x y : Int} (h : Pr w b x y) (hb : Below w.heap.size w w1) : Pr w1 b x y :=
  ⟨(hb.cell (p := ⟨b, 0, none⟩) h.lt).trans h.1, (hb.cell (p := ⟨b, 1, none⟩) h.lt).trans h.2.1, (hb.frozen (p := ⟨b, 0, none⟩) h.lt).trans h.2.2.1, (hb.frozen (p := ⟨b, 1, none⟩) h.lt).trans h.2.2.2⟩
theorem Pr.drew {w : World} {b : Nat} {x y : Int} (h : Pr w b x y) : Pr w.drew b x y := h
theorem Pr.new (w : World) (x y : Int) (t : TypeId) : Pr (w.alloc (.cells #[.int .i64 x, .int .i64 y] t)) w.heap.size x y := ⟨newcellA rfl rfl, newcellA rfl rfl, by simp, by simp⟩
theorem St.drew {g : Nat} {A : Option Addr} {n cap K : Nat} {w0 w : World} (h : St g A n cap K w0 w) : St g A n cap K w0 w.drew := ⟨h.1, h.2.drew⟩
theorem St.alloc {g : Nat} {A : Option Addr} {n cap K : Nat} {w0 w : World} (h : St g A n cap K w0 w) (o : Obj) : St g A n cap K w0 (w.alloc o) := h.below ((Below.refl _ _).alloc (Nat.le_refl _) o)

theorem s4_set {W : World} {b1 b2 b : Nat} {x y z u : Value} (h : W.cell? ⟨b1, 0, none⟩ = some x ∧ W.cell? ⟨b1, 1, none⟩ = some y ∧ W.cell? ⟨b2, 0, none⟩ = some z ∧ W.cell? ⟨b2, 1, none⟩ = some u) (h1 : b < b1) (h2 : b < b2) (s t : Value) :
    ((W.setCell ⟨b, 0, none⟩ s).setCell ⟨b, 1, none⟩ t).cell? ⟨b1, 0, none⟩ = some x ∧ ((W.setCell ⟨b, 0, none⟩ s).setCell ⟨b, 1, none⟩ t).cell? ⟨b1, 1, none⟩ = some y ∧ ((W.setCell ⟨b, 0, none⟩ s).setCell ⟨b, 1, none⟩ t).cell? ⟨b2, 0, none⟩ = some z ∧ ((W.setCell ⟨b, 0, none⟩ s).setCell ⟨b, 1, none⟩ t).cell? ⟨b2, 1, none⟩ = some u := by
  have e : ∀ c, b < c → ∀ j k, (⟨b, j, none⟩ : Addr) ≠ ⟨c, k, none⟩ := fun c hc j k e => by injection e with e; omega
  exact ⟨setO (e _ h1 _ _) (setO (e _ h1 _ _) h.1), setO (e _ h1 _ _) (setO (e _ h1 _ _) h.2.1), setO (e _ h2 _ _) (setO (e _ h2 _ _) h.2.2.1), setO (e _ h2 _ _) (setO (e _ h2 _ _) h.2.2.2)⟩

theorem s6 {W : World} {b : Nat} {u0 u1 u2 u3 u4 u5 v0 v1 v2 v3 v4 v5 : Value} (a0 : W.cell? ⟨b, 0, none⟩ = some u0) (a1 : W.cell? ⟨b, 1, none⟩ = some u1) (a2 : W.cell? ⟨b + 1, 0, none⟩ = some u2) (a3 : W.cell? ⟨b + 1, 1, none⟩ = some u3)
    (a4 : W.cell? ⟨b + 1 + 1, 0, none⟩ = some u4) (a5 : W.cell? ⟨b + 1 + 1, 1, none⟩ = some u5) :
    let X := (((((W.setCell ⟨b, 0, none⟩ v0).setCell ⟨b, 1, none⟩ v1).setCell ⟨b + 1, 0, none⟩ v2).setCell ⟨b + 1, 1, none⟩ v3).setCell ⟨b + 1 + 1, 0, none⟩ v4).setCell ⟨b + 1 + 1, 1, none⟩ v5
    X.cell? ⟨b, 0, none⟩ = some v0 ∧ X.cell? ⟨b, 1, none⟩ = some v1 ∧ X.cell? ⟨b + 1, 0, none⟩ = some v2 ∧ X.cell? ⟨b + 1, 1, none⟩ = some v3 ∧ X.cell? ⟨b + 1 + 1, 0, none⟩ = some v4 ∧ X.cell? ⟨b + 1 + 1, 1, none⟩ = some v5 := by
  intro X
  have e : ∀ c d j k, c ≠ d ∨ j ≠ k → (⟨c, j, none⟩ : Addr) ≠ ⟨d, k, none⟩ := fun c d j k h e => by injection e with e1 e2; omega
  refine ⟨?_, ?_, ?_, ?_, ?_, ?_⟩
  · exact setO (e _ _ _ _ (by omega)) (setO (e _ _ _ _ (by omega)) (setO (e _ _ _ _ (by omega)) (setO (e _ _ _ _ (by omega)) (setO (e _ _ _ _ (by omega)) (setS a0)))))
  · exact setO (e _ _ _ _ (by omega)) (setO (e _ _ _ _ (by omega)) (setO (e _ _ _ _ (by omega)) (setO (e _ _ _ _ (by omega)) (setS (setO (e _ _ _ _ (by omega)) a1)))))
  · exact setO (e _ _ _ _ (by omega)) (setO (e _ _ _ _ (by omega)) (setO (e _ _ _ _ (by omega)) (setS (setO (e _ _ _ _ (by omega)) (setO (e _ _ _ _ (by omega)) a2)))))
  · exact setO (e _ _ _ _ (by omega)) (setO (e _ _ _ _ (by omega)) (setS (setO (e _ _ _ _ (by omega)) (setO (e _ _ _ _ (by omega)) (setO (e _ _ _ _ (by omega)) a3)))))
  · exact setO (e _ _ _ _ (by omega)) (setS (setO (e _ _ _ _ (by omega)) (setO (e _ _ _ _ (by omega)) (setO (e _ _ _ _ (by omega)) (setO (e _ _ _ _ (by omega)) a4)))))
  · exact setS (setO (e _ _ _ _ (by omega)) (setO (e _ _ _ _ (by omega)) (setO (e _ _ _ _ (by omega)) (setO (e _ _ _ _ (by omega)) (setO (e _ _ _ _ (by omega)) a5)))))

end Go.Proofs.Ytlpglibnjmjjkaa
