/-
  Lemmas for the laws' statements that draw their order: what lies in four cells of a base world is kept by whatever extends that world.
  No condition.
-/
import Derived.Test.YtnikogholldcmaaDoorMem
import Derived.Handy
namespace Go.Proofs.YtnikogholldcmaaDoor
open Go.RowKit
set_option linter.unusedVariables false

section
variable {B W w1 : World} {a b c d : Addr} {x y z u : Value}
theorem ext_of (h : B.cell? a = some x ∧ B.cell? b = some y ∧ B.cell? c = some z ∧ B.cell? d = some u) (hb : Below B.heap.size B W) :
    W.cell? a = some x ∧ W.cell? b = some y ∧ W.cell? c = some z ∧ W.cell? d = some u ∧ Below B.heap.size B W :=
  ⟨(hb.cell (World.block_lt_of_cell? B a h.1)).trans h.1, (hb.cell (World.block_lt_of_cell? B b h.2.1)).trans h.2.1, (hb.cell (World.block_lt_of_cell? B c h.2.2.1)).trans h.2.2.1, (hb.cell (World.block_lt_of_cell? B d h.2.2.2)).trans h.2.2.2, hb⟩
theorem ext_b (h : W.cell? a = some x ∧ W.cell? b = some y ∧ W.cell? c = some z ∧ W.cell? d = some u ∧ Below B.heap.size B W) : Below B.heap.size B W := h.2.2.2.2
theorem ext_call (h : Below B.heap.size B W) (hb : Below W.heap.size W w1) : Below B.heap.size B w1 := h.trans (hb.mono h.size)
theorem ext_first (hb : Below B.drew.heap.size B.drew w1) : Below B.heap.size B w1 := (Below.refl _ _).drew.trans hb
theorem ext_swap {o : Obj} (h : Below B.heap.size B (W.alloc o)) (hs : B.heap.size ≤ W.heap.size) (o' : Obj) : Below B.heap.size B (W.alloc o') :=
  ⟨h.os, h.tape, h.output, by simp; omega, fun i hi => by
    rw [Below.heap_alloc W o' i (by omega), ← Below.heap_alloc W o i (by omega)]
    exact h.block i hi⟩
theorem ext_set2 (h : Below B.heap.size B W) {g : Nat} (hg : B.heap.size ≤ g) (s t : Value) : Below B.heap.size B ((W.setCell ⟨g, 0, none⟩ s).setCell ⟨g, 1, none⟩ t) :=
  (h.setCell (p := ⟨g, 0, none⟩) hg _).setCell (p := ⟨g, 1, none⟩) hg _
theorem ext_le (h : Below B.heap.size B W) : B.heap.size ≤ W.heap.size := h.size
end
theorem keepr {W w1 : World} (h : Below W.heap.size W w1) : ∀ k, k < W.heap.size → k < w1.heap.size := fun k hk => Nat.lt_of_lt_of_le hk h.size
end Go.Proofs.YtnikogholldcmaaDoor
