/-
  Words for memory and small lemmas on them, over any program: a slice that reads as a list of integers or of pairs; how such readings are kept.
  Contracts of the small functions on integers: within, abs, sign, compare, the sizes of lists, and their like in the reference.
  Contracts of the laws' helpers on lists of int64: the copy, the comparison of equal lists, the marks and their check.
  Plain words on lists: a test of every element with its place.
  Contracts of the laws' helpers on lists of terms with signs: the size, the copy, the comparison of equal lists; the comparisons of the program and the reference; the walk of the law FnExactSameSigned.
  Contracts of the laws' marks on lists and of their checks, and of the comparison of equal lists of fractions.
  Words for results that are slices of the call's own; small lemmas on owned rows.
  Decimal numerals and how they are read: plain laws.
  Numbers in decimal: contracts of the program's and of the reference's functions; the walk of the law FnExactDecimal.
  Numbers read from texts: contracts of the program's and of the reference's functions; the walk of the law FnExactReadDecimal.
  What the row's list says of the two errors of strconv; the variable MaxLen in a world of the program's shape.
  Conditions: those of the law's own text, and that the package-level variables hold what the program's text lays in them.
-/
import Derived.WalkKit
import Derived.ProofKit
import Derived.OpenShut
import Derived.Below
import Derived.Deep.Slices
import Derived.Lib.SmallJoins
import Derived.Lib.Hide
import Derived.Test.YtlpglibnjmjjkaaGreatDoorProg
import Derived.Handy
import Derived.BigQuiet
import Derived.Deep.QuietTactic
import Derived.Laws.StructEq
import Derived.Deep.RegionHeld3
import Derived.Deep.DrawnRows
import Derived.Deep.AppendLies
import Derived.Lib.ItoaNum
import Derived.Lib.ItoaMem
import Derived.Lib.ParseIntB
import Derived.Test.YtlpglibnjmjjkaaGreatDoorShelf
import Derived.Lib.AppendIntMem
import Derived.Lib.ItoaLen
import Derived.Laws.IdiomStrings
import Derived.Maps.AppendAt
import Derived.Stop.LaidErr
import Derived.Lib.ParseIntBTie
namespace Go.Proofs.YtlpglibnjmjjkaaGreatDoor
open Go.ChangeShapes Go.WideShapes Go.ChangeAt Go.RowKit Go.Joins Go.Deep
set_option linter.unusedVariables false

theorem i64_bd {n : Int} (h : (Lit.int .i64 n).wf = true) : -9223372036854775808 ≤ n ∧ n ≤ 9223372036854775807 := bounds_i64 h
theorem str_bd {s : ByteArray} (h : s.size ≤ maxLen) : s.size ≤ 9223372036854775807 := h
def Rng (z : Int) : Prop := -9223372036854775808 ≤ z ∧ z ≤ 9223372036854775807

theorem ret_int {k : IntKind} {a b : Int} (h : a = b) : Ending.returned (.int k a) = .returned (.int k b) := by rw [h]
theorem ret_bool {a b : Bool} (h : a = b) : Ending.returned (.bool a) = .returned (.bool b) := by rw [h]
theorem ret_str {a b : ByteArray} (h : a = b) : Ending.returned (.string a) = .returned (.string b) := by rw [h]
theorem ret_int2 {k j : IntKind} {a b c d : Int} (h : a = b) (h' : c = d) : Ending.returned (.tuple #[.int k a, .int j c]) = .returned (.tuple #[.int k b, .int j d]) := by rw [h, h']
theorem mul_bd {x y : Int} (h1 : -1000000000 ≤ x) (h2 : x ≤ 1000000000) (h3 : -1000000000 ≤ y) (h4 : y ≤ 1000000000) : -1000000000000000000 ≤ x * y ∧ x * y ≤ 1000000000000000000 := by
  have h : (x * y).natAbs ≤ 1000000000 * 1000000000 := by rw [Int.natAbs_mul]; exact Nat.mul_le_mul (by omega) (by omega)
  omega
theorem addr_block (a : Addr) (n : Nat) : (a.add n).block = a.block := by unfold Addr.add; split <;> rfl
theorem addr_add (a : Addr) (i j : Nat) : (a.add i).add j = a.add (i + j) := by
  unfold Addr.add
  by_cases hi : i = 0 <;> by_cases hj : j = 0 <;> simp [hi, hj, Nat.add_assoc]
theorem addr_nil (a : Addr) : a.add 0 = a := by unfold Addr.add; simp
theorem addr_zero (g n : Nat) : (⟨g, 0, none⟩ : Addr).add n = ⟨g, n, none⟩ := by unfold Addr.add; split <;> simp_all
theorem addr_off (g o n : Nat) : (⟨g, o, none⟩ : Addr).add n = ⟨g, o + n, none⟩ := by unfold Addr.add; split <;> simp_all

/-- What a contract's end says of the cells that were there, as rules for the walk. -/
theorem keepc {W w1 : World} (h : Below W.heap.size W w1) : (∀ b o, b < W.heap.size → w1.cell? ⟨b, o, none⟩ = W.cell? ⟨b, o, none⟩) ∧ (∀ b o, b < W.heap.size → w1.frozen? ⟨b, o, none⟩ = W.frozen? ⟨b, o, none⟩) ∧ W.heap.size ≤ w1.heap.size :=
  ⟨fun b o hb => h.cell (p := ⟨b, o, none⟩) hb, fun b o hb => h.frozen (p := ⟨b, o, none⟩) hb, h.size⟩

section
variable {w W w1 : World} {p q r s : Int}
/-- Two boxes of two integers lie above the world w, in two new blocks: kept by whatever turns nothing that was there. -/
theorem two_keep (c1 : W.cell? ⟨w.heap.size, 0, none⟩ = some (.int .i64 p)) (c2 : W.cell? ⟨w.heap.size, 1, none⟩ = some (.int .i64 q)) (c3 : W.cell? ⟨w.heap.size + 1, 0, none⟩ = some (.int .i64 r)) (c4 : W.cell? ⟨w.heap.size + 1, 1, none⟩ = some (.int .i64 s))
    (hB : Below w.heap.size w W) (hs : w.heap.size + 1 < W.heap.size) (hb : Below W.heap.size W w1) :
    w1.cell? ⟨w.heap.size, 0, none⟩ = some (.int .i64 p) ∧ w1.cell? ⟨w.heap.size, 1, none⟩ = some (.int .i64 q) ∧ w1.cell? ⟨w.heap.size + 1, 0, none⟩ = some (.int .i64 r) ∧ w1.cell? ⟨w.heap.size + 1, 1, none⟩ = some (.int .i64 s) ∧
      Below w.heap.size w w1 ∧ w.heap.size + 1 < w1.heap.size :=
  ⟨(hb.cell (p := ⟨w.heap.size, 0, none⟩) (by simp; omega)).trans c1, (hb.cell (p := ⟨w.heap.size, 1, none⟩) (by simp; omega)).trans c2, (hb.cell (p := ⟨w.heap.size + 1, 0, none⟩) (by simp; omega)).trans c3,
    (hb.cell (p := ⟨w.heap.size + 1, 1, none⟩) (by simp; omega)).trans c4, hB.trans (hb.mono (by omega)), by have := hb.size; omega⟩
theorem two_drew (h : W.cell? ⟨w.heap.size, 0, none⟩ = some (.int .i64 p) ∧ W.cell? ⟨w.heap.size, 1, none⟩ = some (.int .i64 q) ∧ W.cell? ⟨w.heap.size + 1, 0, none⟩ = some (.int .i64 r) ∧ W.cell? ⟨w.heap.size + 1, 1, none⟩ = some (.int .i64 s) ∧
      Below w.heap.size w W ∧ w.heap.size + 1 < W.heap.size) :
    W.drew.cell? ⟨w.heap.size, 0, none⟩ = some (.int .i64 p) ∧ W.drew.cell? ⟨w.heap.size, 1, none⟩ = some (.int .i64 q) ∧ W.drew.cell? ⟨w.heap.size + 1, 0, none⟩ = some (.int .i64 r) ∧ W.drew.cell? ⟨w.heap.size + 1, 1, none⟩ = some (.int .i64 s) ∧
      Below w.heap.size w W.drew ∧ w.heap.size + 1 < W.drew.heap.size := ⟨h.1, h.2.1, h.2.2.1, h.2.2.2.1, h.2.2.2.2.1.drew, h.2.2.2.2.2⟩
theorem two_keep' (h : W.cell? ⟨w.heap.size, 0, none⟩ = some (.int .i64 p) ∧ W.cell? ⟨w.heap.size, 1, none⟩ = some (.int .i64 q) ∧ W.cell? ⟨w.heap.size + 1, 0, none⟩ = some (.int .i64 r) ∧ W.cell? ⟨w.heap.size + 1, 1, none⟩ = some (.int .i64 s) ∧
      Below w.heap.size w W ∧ w.heap.size + 1 < W.heap.size) (hb : Below W.heap.size W w1) :
    w1.cell? ⟨w.heap.size, 0, none⟩ = some (.int .i64 p) ∧ w1.cell? ⟨w.heap.size, 1, none⟩ = some (.int .i64 q) ∧ w1.cell? ⟨w.heap.size + 1, 0, none⟩ = some (.int .i64 r) ∧ w1.cell? ⟨w.heap.size + 1, 1, none⟩ = some (.int .i64 s) ∧
      Below w.heap.size w w1 ∧ w.heap.size + 1 < w1.heap.size := two_keep h.1 h.2.1 h.2.2.1 h.2.2.2.1 h.2.2.2.2.1 h.2.2.2.2.2 hb
theorem two_below (h : W.cell? ⟨w.heap.size, 0, none⟩ = some (.int .i64 p) ∧ W.cell? ⟨w.heap.size, 1, none⟩ = some (.int .i64 q) ∧ W.cell? ⟨w.heap.size + 1, 0, none⟩ = some (.int .i64 r) ∧ W.cell? ⟨w.heap.size + 1, 1, none⟩ = some (.int .i64 s) ∧
      Below w.heap.size w W ∧ w.heap.size + 1 < W.heap.size) : Below w.heap.size w W := h.2.2.2.2.1
theorem two_alloc (h : W.cell? ⟨w.heap.size, 0, none⟩ = some (.int .i64 p) ∧ W.cell? ⟨w.heap.size, 1, none⟩ = some (.int .i64 q) ∧ W.cell? ⟨w.heap.size + 1, 0, none⟩ = some (.int .i64 r) ∧ W.cell? ⟨w.heap.size + 1, 1, none⟩ = some (.int .i64 s) ∧
      Below w.heap.size w W ∧ w.heap.size + 1 < W.heap.size) (o : Obj) :
    (W.alloc o).cell? ⟨w.heap.size, 0, none⟩ = some (.int .i64 p) ∧ (W.alloc o).cell? ⟨w.heap.size, 1, none⟩ = some (.int .i64 q) ∧ (W.alloc o).cell? ⟨w.heap.size + 1, 0, none⟩ = some (.int .i64 r) ∧ (W.alloc o).cell? ⟨w.heap.size + 1, 1, none⟩ = some (.int .i64 s) ∧
      Below w.heap.size w (W.alloc o) ∧ w.heap.size + 1 < (W.alloc o).heap.size := two_keep' h ((Below.refl _ _).alloc (Nat.le_refl _) _)
theorem two_set2 (h : W.cell? ⟨w.heap.size, 0, none⟩ = some (.int .i64 p) ∧ W.cell? ⟨w.heap.size, 1, none⟩ = some (.int .i64 q) ∧ W.cell? ⟨w.heap.size + 1, 0, none⟩ = some (.int .i64 r) ∧ W.cell? ⟨w.heap.size + 1, 1, none⟩ = some (.int .i64 s) ∧
      Below w.heap.size w W ∧ w.heap.size + 1 < W.heap.size) {g : Nat} (hg : w.heap.size + 1 < g) (u v : Value) :
    ((W.setCell ⟨g, 0, none⟩ u).setCell ⟨g, 1, none⟩ v).cell? ⟨w.heap.size, 0, none⟩ = some (.int .i64 p) ∧ ((W.setCell ⟨g, 0, none⟩ u).setCell ⟨g, 1, none⟩ v).cell? ⟨w.heap.size, 1, none⟩ = some (.int .i64 q) ∧
      ((W.setCell ⟨g, 0, none⟩ u).setCell ⟨g, 1, none⟩ v).cell? ⟨w.heap.size + 1, 0, none⟩ = some (.int .i64 r) ∧ ((W.setCell ⟨g, 0, none⟩ u).setCell ⟨g, 1, none⟩ v).cell? ⟨w.heap.size + 1, 1, none⟩ = some (.int .i64 s) ∧
      Below w.heap.size w ((W.setCell ⟨g, 0, none⟩ u).setCell ⟨g, 1, none⟩ v) ∧ w.heap.size + 1 < ((W.setCell ⟨g, 0, none⟩ u).setCell ⟨g, 1, none⟩ v).heap.size := by
  obtain ⟨h1, h2, h3, h4, h5, h6⟩ := h
  have k : ∀ a : Addr, a.block ≤ w.heap.size + 1 → ((W.setCell ⟨g, 0, none⟩ u).setCell ⟨g, 1, none⟩ v).cell? a = W.cell? a := fun a ha =>
    (World.cell?_setCell_other _ _ _ _ (fun e => by rw [← e] at ha; simp at ha; omega)).trans (World.cell?_setCell_other _ _ _ _ (fun e => by rw [← e] at ha; simp at ha; omega))
  exact ⟨(k _ (by simp)).trans h1, (k _ (by simp)).trans h2, (k _ (by simp)).trans h3, (k _ (by simp)).trans h4, (h5.setCell (by simp; omega) _).setCell (by simp; omega) _, by simpa using h6⟩
theorem two_start (w : World) (p q r s : Int) (t u : TypeId) :
    let W := (w.alloc (.cells #[.int .i64 p, .int .i64 q] t)).alloc (.cells #[.int .i64 r, .int .i64 s] u)
    W.cell? ⟨w.heap.size, 0, none⟩ = some (.int .i64 p) ∧ W.cell? ⟨w.heap.size, 1, none⟩ = some (.int .i64 q) ∧ W.cell? ⟨w.heap.size + 1, 0, none⟩ = some (.int .i64 r) ∧ W.cell? ⟨w.heap.size + 1, 1, none⟩ = some (.int .i64 s) ∧
      Below w.heap.size w W ∧ w.heap.size + 1 < W.heap.size := by
  intro W
  refine ⟨?_, ?_, ?_, ?_, ((Below.refl _ _).alloc (Nat.le_refl _) _).alloc (by simp) _, by simp [W]⟩ <;> simp [W, go_sem]
end

theorem pair_set {w2 : World} {g : Nat} {x y : Value} (h0 : w2.cell? ⟨g, 0, none⟩ = some x) (h1 : w2.cell? ⟨g, 1, none⟩ = some y) (u v : Value) :
    (w2.setCell ⟨g, 0, none⟩ u).cell? ⟨g, 0, none⟩ = some u ∧ ((w2.setCell ⟨g, 0, none⟩ u).setCell ⟨g, 1, none⟩ v).cell? ⟨g, 0, none⟩ = some u ∧ ((w2.setCell ⟨g, 0, none⟩ u).setCell ⟨g, 1, none⟩ v).cell? ⟨g, 1, none⟩ = some v := by
  have e0 : (w2.setCell ⟨g, 0, none⟩ u).cell? ⟨g, 0, none⟩ = some u := World.cell?_setCell_same' _ _ _ (by rw [h0]; rfl)
  have e1 : (w2.setCell ⟨g, 0, none⟩ u).cell? ⟨g, 1, none⟩ = some y := (World.cell?_setCell_other _ _ _ _ (by simp)).trans h1
  exact ⟨e0, (World.cell?_setCell_other _ _ _ _ (by simp)).trans e0, World.cell?_setCell_same' _ _ _ (by rw [e1]; rfl)⟩

/-- From A on lie the cells xs. -/
def Rd (w : World) (A : Option Addr) (xs : List Value) : Prop := ∀ j u, xs[j]? = some u → ∃ ad, A = some ad ∧ w.cell? (ad.add j) = some u

section
variable {w w' : World} {A : Option Addr} {xs : List Value}
theorem Rd.nil : Rd w A [] := fun j u h => by simp at h
theorem Rd.keep (h : Rd w A xs) (hk : ∀ p u, w.cell? p = some u → (∃ ad, A = some ad ∧ p.block = ad.block) → w'.cell? p = some u) : Rd w' A xs := fun j u hu => by
  obtain ⟨ad, e, hc⟩ := h j u hu
  exact ⟨ad, e, hk _ _ hc ⟨ad, e, addr_block _ _⟩⟩
theorem Rd.below (h : Rd w A xs) (hb : Below w.heap.size w w') : Rd w' A xs := h.keep fun p u hu _ => (hb.cell (World.block_lt_of_cell? w p hu)).trans hu
theorem Rd.belowB {B : Nat} (h : Rd w A xs) (hb : Below B w w') (hA : ∀ ad, A = some ad → ad.block < B) : Rd w' A xs := h.keep fun p u hu ⟨ad, e, hp⟩ => (hb.cell (by rw [hp]; exact hA ad e)).trans hu
theorem Rd.alloc (h : Rd w A xs) (o : Obj) : Rd (w.alloc o) A xs := h.keep fun p u hu _ => (World.cell?_alloc_lt w o p (World.block_lt_of_cell? w p hu)).trans hu
theorem Rd.drew (h : Rd w A xs) : Rd w.drew A xs := h
theorem Rd.set_ (h : Rd w A xs) {p : Addr} (u : Value) (hp : ∀ ad, A = some ad → ad.block ≠ p.block) : Rd (w.setCell p u) A xs :=
  h.keep fun q v hv ⟨ad, e, hq⟩ => (World.cell?_setCell_other w p q u (fun e' => hp ad e (by rw [← hq, e']))).trans hv
theorem Rd.grown (h : Rd w A xs) {row : Option Nat} (hg : w.grownBy w' row) (hr : ∀ ad, A = some ad → some ad.block ≠ row) : Rd w' A xs :=
  h.keep fun p u hu ⟨ad, e, hp⟩ => hg.cell hu (by rw [hp]; exact hr ad e)
theorem Rd.of_own {base e size n c : Nat} (h : w.ownsRow base e size (.slice A n c) n xs) : Rd w A xs := fun j u hu => by
  rcases h.2 with ⟨h1, h2⟩ | ⟨g, cap, cur, hv, _⟩
  · have : xs = [] := List.eq_nil_of_length_eq_zero (by rw [h.1, h2]; omega)
    subst this; simp at hu
  · injection hv with hA
    subst hA
    exact ⟨_, rfl, h.cells (g := g) rfl j u hu⟩
theorem Rd.drop_ (h : Rd w A xs) (k : Nat) : Rd w (A.map (·.add k)) (xs.drop k) := fun j u hu => by
  rw [List.getElem?_drop] at hu
  obtain ⟨ad, rfl, hc⟩ := h _ u hu
  exact ⟨_, rfl, by rw [addr_add]; exact hc⟩
theorem Rd.take_ (h : Rd w A xs) (k : Nat) : Rd w A (xs.take k) := fun j u hu => by
  rw [List.getElem?_take] at hu
  split at hu
  · exact h j u hu
  · cases hu
end

/-- A slice of n int64: its numbers are zs. -/
def IRow (w : World) (A : Option Addr) (n : Nat) (zs : List Int) : Prop :=
  zs.length = n ∧ n ≤ 9223372036854775807 ∧ (∀ z ∈ zs, Rng z) ∧ Rd w A (zs.map (Value.int .i64))

section
variable {w w' : World} {A : Option Addr} {n : Nat} {zs : List Int}
theorem IRow.len (h : IRow w A n zs) : zs.length = n := h.1
theorem IRow.bd (h : IRow w A n zs) : n ≤ 9223372036854775807 := h.2.1
theorem IRow.at_ {k : Nat} (h : IRow w A n zs) (hk : k < n) : ∃ ad z, A = some ad ∧ zs[k]? = some z ∧ -9223372036854775808 ≤ z ∧ z ≤ 9223372036854775807 ∧ w.cell? (ad.add k) = some (.int .i64 z) := by
  have hl : k < zs.length := by rw [h.1]; exact hk
  have hz : zs[k]? = some zs[k] := List.getElem?_eq_getElem hl
  obtain ⟨ad, e, hc⟩ := h.2.2.2 k (.int .i64 zs[k]) (by simp [hz])
  have hr := h.2.2.1 _ (List.getElem_mem hl)
  exact ⟨ad, _, e, hz, hr.1, hr.2, hc⟩
theorem IRow.below (h : IRow w A n zs) (hb : Below w.heap.size w w') : IRow w' A n zs := ⟨h.1, h.2.1, h.2.2.1, h.2.2.2.below hb⟩
theorem IRow.alloc (h : IRow w A n zs) (o : Obj) : IRow (w.alloc o) A n zs := ⟨h.1, h.2.1, h.2.2.1, h.2.2.2.alloc o⟩
theorem IRow.drew (h : IRow w A n zs) : IRow w.drew A n zs := h
theorem IRow.set_ (h : IRow w A n zs) {p : Addr} (u : Value) (hp : ∀ ad, A = some ad → ad.block ≠ p.block) : IRow (w.setCell p u) A n zs := ⟨h.1, h.2.1, h.2.2.1, h.2.2.2.set_ u hp⟩
theorem IRow.grown (h : IRow w A n zs) {row : Option Nat} (hg : w.grownBy w' row) (hr : ∀ ad, A = some ad → some ad.block ≠ row) : IRow w' A n zs := ⟨h.1, h.2.1, h.2.2.1, h.2.2.2.grown hg hr⟩
theorem IRow.of_own {base e c : Nat} (h : w.ownsRow base e 1 (.slice A n c) n (zs.map (Value.int .i64))) (hn : n ≤ 9223372036854775807) (hr : ∀ z ∈ zs, Rng z) : IRow w A n zs :=
  ⟨by have := h.1; simpa using this, hn, hr, Rd.of_own h⟩
end

/-- The cells of a list of pairs. -/
def prs : List (Int × Int) → List Value
  | [] => []
  | p :: r => .int .i64 p.1 :: .int .i64 p.2 :: prs r
theorem prs_length : ∀ zs : List (Int × Int), (prs zs).length = zs.length * 2
  | [] => rfl
  | p :: r => by simp [prs, prs_length r]; omega
theorem prs_append : ∀ a b : List (Int × Int), prs (a ++ b) = prs a ++ prs b
  | [], b => rfl
  | p :: r, b => by simp [prs, prs_append r b]
theorem prs_get1 : ∀ (zs : List (Int × Int)) (k : Nat) (p : Int × Int), zs[k]? = some p → (prs zs)[k * 2]? = some (.int .i64 p.1)
  | [], k, p, h => by simp at h
  | q :: r, 0, p, h => by simp at h; subst h; rfl
  | q :: r, k + 1, p, h => by
    have := prs_get1 r k p (by simpa using h)
    rw [show (k + 1) * 2 = (k * 2) + 1 + 1 from by omega]
    simpa [prs] using this
theorem prs_get2 : ∀ (zs : List (Int × Int)) (k : Nat) (p : Int × Int), zs[k]? = some p → (prs zs)[k * 2 + 1]? = some (.int .i64 p.2)
  | [], k, p, h => by simp at h
  | q :: r, 0, p, h => by simp at h; subst h; rfl
  | q :: r, k + 1, p, h => by
    have := prs_get2 r k p (by simpa using h)
    rw [show (k + 1) * 2 + 1 = (k * 2 + 1) + 1 + 1 from by omega]
    simpa [prs] using this
theorem prs_one (zs : List (Int × Int)) : ∀ u ∈ prs zs, u.oneCell' = true := by
  induction zs with
  | nil => intro u hu; simp [prs] at hu
  | cons p r ih =>
    intro u hu
    simp only [prs, List.mem_cons] at hu
    rcases hu with rfl | rfl | hu
    · rfl
    · rfl
    · exact ih u hu

/-- A slice of n pairs of int64. -/
def PRow (w : World) (A : Option Addr) (n : Nat) (zs : List (Int × Int)) : Prop :=
  zs.length = n ∧ n ≤ 9223372036854775807 ∧ (∀ z ∈ zs, Rng z.1 ∧ Rng z.2) ∧ Rd w A (prs zs)

section
variable {w w' : World} {A : Option Addr} {n : Nat} {zs : List (Int × Int)}
theorem PRow.len (h : PRow w A n zs) : zs.length = n := h.1
theorem PRow.bd (h : PRow w A n zs) : n ≤ 9223372036854775807 := h.2.1
theorem PRow.at_ {k : Nat} (h : PRow w A n zs) (hk : k < n) : ∃ b o x y, A = some ⟨b, o, none⟩ ∧ zs[k]? = some (x, y) ∧ -9223372036854775808 ≤ x ∧ x ≤ 9223372036854775807 ∧ -9223372036854775808 ≤ y ∧ y ≤ 9223372036854775807 ∧
    w.cell? ⟨b, o + k * 2, none⟩ = some (.int .i64 x) ∧ w.cell? ⟨b, o + k * 2 + 1, none⟩ = some (.int .i64 y) := by
  have hl : k < zs.length := by rw [h.1]; exact hk
  have hz : zs[k]? = some zs[k] := List.getElem?_eq_getElem hl
  obtain ⟨ad, e, hc⟩ := h.2.2.2 (k * 2) _ (prs_get1 zs k _ hz)
  obtain ⟨ad', e', hc'⟩ := h.2.2.2 (k * 2 + 1) _ (prs_get2 zs k _ hz)
  rw [e] at e'; injection e' with e'; subst e'
  have h0 : 0 < zs.length := by omega
  obtain ⟨ad0, e0, hc0⟩ := h.2.2.2 0 _ (by have := prs_get1 zs 0 zs[0] (List.getElem?_eq_getElem h0); simpa using this)
  rw [e] at e0; injection e0 with e0; subst e0
  rw [addr_nil] at hc0
  obtain ⟨b, o, s⟩ := ad
  have hs : s = none := by simpa using World.cell?_spot hc0
  subst hs
  rw [addr_off] at hc hc'
  have hr := h.2.2.1 _ (List.getElem_mem hl)
  exact ⟨b, o, _, _, e, hz, hr.1.1, hr.1.2, hr.2.1, hr.2.2, hc, hc'⟩
theorem PRow.below (h : PRow w A n zs) (hb : Below w.heap.size w w') : PRow w' A n zs := ⟨h.1, h.2.1, h.2.2.1, h.2.2.2.below hb⟩
theorem PRow.alloc (h : PRow w A n zs) (o : Obj) : PRow (w.alloc o) A n zs := ⟨h.1, h.2.1, h.2.2.1, h.2.2.2.alloc o⟩
theorem PRow.drew (h : PRow w A n zs) : PRow w.drew A n zs := h
theorem PRow.set_ (h : PRow w A n zs) {p : Addr} (u : Value) (hp : ∀ ad, A = some ad → ad.block ≠ p.block) : PRow (w.setCell p u) A n zs := ⟨h.1, h.2.1, h.2.2.1, h.2.2.2.set_ u hp⟩
theorem PRow.grown (h : PRow w A n zs) {row : Option Nat} (hg : w.grownBy w' row) (hr : ∀ ad, A = some ad → some ad.block ≠ row) : PRow w' A n zs := ⟨h.1, h.2.1, h.2.2.1, h.2.2.2.grown hg hr⟩
theorem PRow.of_own {base e c : Nat} (h : w.ownsRow base e 2 (.slice A n c) n (prs zs)) (hn : n ≤ 9223372036854775807) (hr : ∀ z ∈ zs, Rng z.1 ∧ Rng z.2) : PRow w A n zs :=
  ⟨by have := h.1; rw [prs_length] at this; omega, hn, hr, Rd.of_own h⟩
end

/-- A value that owns a row is a slice of that length. -/
theorem own_form {w : World} {base e size n : Nat} {v : Value} {xs : List Value} (h : w.ownsRow base e size v n xs) : ∃ A c, v = .slice A n c ∧ ∀ ad, A = some ad → base ≤ ad.block ∧ ad.block < w.heap.size := by
  rcases h.2 with ⟨rfl, rfl⟩ | ⟨g, cap, cur, rfl, hb, hg, _⟩
  · exact ⟨none, 0, rfl, fun ad h => by cases h⟩
  · exact ⟨some ⟨g, 0, none⟩, cap, rfl, fun ad h => by injection h with h; subst h; exact ⟨hb, (Array.getElem?_eq_some_iff.1 hg).1⟩⟩

/-- What is owned stays owned while nothing below the heap's size turns. -/
theorem own_below {w w' : World} {base e size n : Nat} {v : Value} {xs : List Value} (h : w.ownsRow base e size v n xs) (hb : Below w.heap.size w w') : w'.ownsRow base e size v n xs := by
  refine ⟨h.1, ?_⟩
  rcases h.2 with hn | ⟨g, cap, cur, rfl, hbb, hgg, rest⟩
  · exact .inl hn
  · refine .inr ⟨g, cap, cur, rfl, hbb, ?_, rest⟩
    rw [hb.block g (Array.getElem?_eq_some_iff.1 hgg).1]
    exact hgg
theorem own_base {w : World} {base base' e size n : Nat} {v : Value} {xs : List Value} (h : w.ownsRow base e size v n xs) (hb : base' ≤ base) : w.ownsRow base' e size v n xs := by
  refine ⟨h.1, ?_⟩
  rcases h.2 with hn | ⟨g, cap, cur, rfl, hbb, rest⟩
  · exact .inl hn
  · exact .inr ⟨g, cap, cur, rfl, by omega, rest⟩
theorem own_set_other {w : World} {base e size n : Nat} {v : Value} {xs : List Value} (h : w.ownsRow base e size v n xs) {p : Addr} (hp : v.ownBlock ≠ some p.block) (u : Value) : (w.setCell p u).ownsRow base e size v n xs := by
  refine ⟨h.1, ?_⟩
  rcases h.2 with hn | ⟨g, cap, cur, rfl, hbb, hgg, rest⟩
  · exact .inl hn
  · refine .inr ⟨g, cap, cur, rfl, hbb, ?_, rest⟩
    rw [Below.heap_setCell _ _ _ _ (fun e => hp (by simp [Value.ownBlock, e]))]
    exact hgg
/-- A row of n cells, none frozen: its length is n. -/
theorem own_len1 {w : World} {base e n : Nat} {v : Value} {xs : List Value} (h : w.ownsRow base e 1 v n xs) : xs.length = n := by have := h.1; omega
theorem own_cap {w : World} {base e size n c : Nat} {A : Option Addr} {xs : List Value} (h : w.ownsRow base e size (.slice A n c) n xs) : n ≤ c := by
  rcases h.2 with ⟨h1, h2⟩ | ⟨g, cap, cur, hv, _, _, hnc, _⟩
  · omega
  · injection hv with _ _ hc; omega
/-- The block of a non-empty row. -/
theorem own_some {w : World} {base e size n c : Nat} {A : Option Addr} {xs : List Value} (h : w.ownsRow base e size (.slice A n c) n xs) (hn : 0 < n) : ∃ g, A = some ⟨g, 0, none⟩ ∧ base ≤ g ∧ g < w.heap.size := by
  rcases h.2 with ⟨h1, h2⟩ | ⟨g, cap, cur, hv, hb, hg, _⟩
  · omega
  · injection hv with hA
    exact ⟨g, hA, hb, (Array.getElem?_eq_some_iff.1 hg).1⟩

theorem fill_get {α β : Type} (f : α → β) (d : β) (zs : List α) (n k : Nat) (hl : zs.length = n) (hk : k < n) : ((zs.take k).map f ++ List.replicate (n - k) d)[k]? = some d := by
  have ht : ((zs.take k).map f).length = k := by simp; omega
  rw [List.getElem?_append_right (by omega), ht, Nat.sub_self, List.getElem?_replicate, if_pos (by omega)]
theorem fill_step {α β : Type} (f : α → β) (d : β) (zs : List α) (n k : Nat) (z : α) (hl : zs.length = n) (hk : k < n) (hz : zs[k]? = some z) :
    ((zs.take k).map f ++ List.replicate (n - k) d).set k (f z) = (zs.take (k + 1)).map f ++ List.replicate (n - (k + 1)) d := by
  have ht : ((zs.take k).map f).length = k := by simp; omega
  obtain ⟨m, hm⟩ : ∃ m, n - k = m + 1 := ⟨n - k - 1, by omega⟩
  rw [List.set_append_right _ _ (by omega), ht, Nat.sub_self, hm, List.replicate_succ, List.set_cons_zero, List.take_add_one, hz, show n - (k + 1) = m from by omega]
  simp

section
variable {H : Type} {enc : TypeId × Value → H} {P : Program} {W : World}
/-- An argument []int64, opened. -/
theorem isRow_of {t e : TypeId} {a : Option Addr} {len cap : Nat} {d : DataW H} {p : List MemPlace} (ht : P.underlying t = some (.slice e)) (he : P.underlying e = some (.int .i64)) (hc : P.cellsOf e = 1)
    (h : DataW.Trod enc P W 0 (fun _ => true) true t (.slice a len cap) d p) : ∃ zs, IRow W a len zs := by
  obtain ⟨fuel, hf⟩ := h
  rcases open_ints ht he hc hf with ⟨hcs, _⟩ | ⟨x, l, c, zs, hcs, _, hl, hm, hz, _, hcell, hwz⟩
  · simp [Value.cells] at hcs
    obtain ⟨rfl, rfl, rfl⟩ := hcs
    exact ⟨[], rfl, by omega, by simp, Rd.nil⟩
  · simp [Value.cells] at hcs
    obtain ⟨rfl, rfl, rfl⟩ := hcs
    simp only [if_true] at hz
    refine ⟨zs.take len, by rw [List.length_take]; omega, by unfold maxLen at hm; omega, fun z hz' => bounds_i64 (hwz z (List.mem_of_mem_take hz')), fun j u hu => ?_⟩
    rw [List.getElem?_map, List.getElem?_take] at hu
    split at hu
    · rename_i hj
      have hjl : j < zs.length := by omega
      have hh := hcell j hjl
      rw [List.getElem?_eq_getElem hjl] at hu
      simp at hu
      subst hu
      exact ⟨_, rfl, by simpa [hjl] using hh⟩
    · simp at hu
/-- An argument that is a slice of structs of two int64, opened. -/
theorem isRow2_of {t e ti : TypeId} {f0 f1 : Field} {a : Option Addr} {len cap : Nat} {d : DataW H} {p : List MemPlace} (ht : P.underlying t = some (.slice e)) (he : P.underlying e = some (.struct #[f0, f1]))
    (hi : P.underlying ti = some (.int .i64)) (hone : (oneCellFields P #[f0, f1] && f0.type == ti && f1.type == ti) = true) (hC : P.cellsOf e = 2)
    (h : DataW.Trod enc P W 0 (fun _ => true) true t (.slice a len cap) d p) : ∃ zs, PRow W a len zs := by
  obtain ⟨fuel, hf⟩ := h
  simp only [Bool.and_eq_true, beq_iff_eq] at hone
  obtain ⟨⟨hone, h0⟩, h1⟩ := hone
  rcases open_slice ht hf with ⟨hcs, _⟩ | ⟨x, l, c, m, n, D, Pl, hcs, _, hl, hm, hmm, _, hel⟩
  · simp [Value.cells] at hcs
    obtain ⟨rfl, rfl, rfl⟩ := hcs
    exact ⟨[], rfl, by omega, by simp, Rd.nil⟩
  · simp [Value.cells] at hcs
    obtain ⟨rfl, rfl, rfl⟩ := hcs
    simp only [if_true] at hmm
    subst hmm
    have key : ∀ i, i < m → ∃ q : Int × Int, Rng q.1 ∧ Rng q.2 ∧ W.cell? (x.add (i * 2)) = some (.int .i64 q.1) ∧ W.cell? (x.add (i * 2 + 1)) = some (.int .i64 q.2) := by
      intro i him
      obtain ⟨cs', hc, htr⟩ := hel i him
      rw [hC] at hc
      obtain ⟨_, hlen, hat⟩ := World.cells?_some hc
      obtain ⟨y0, y1, n', _, _, g0, g1⟩ := trod_struct2 he htr
      obtain ⟨o0, k0⟩ := hone_of hone 0 f0 rfl
      obtain ⟨o1, k1⟩ := hone_of hone 1 f1 rfl
      rw [o0, k0] at g0
      rw [o1, k1] at g1
      obtain ⟨q0, e0, _, w0⟩ := DataW.trod_int (by rw [h0]; exact hi) g0
      obtain ⟨q1, e1, _, w1⟩ := DataW.trod_int (by rw [h1]; exact hi) g1
      match cs', hlen with
      | [c0, c1], _ =>
        simp at e0 e1
        subst e0 e1
        refine ⟨(q0, q1), bounds_i64 w0, bounds_i64 w1, ?_, ?_⟩
        · have := hat 0 (by omega); rw [addr_add] at this; simpa using this
        · have := hat 1 (by omega); rw [addr_add] at this; simpa using this
    have key2 : ∀ k, k ≤ m → ∃ zs : List (Int × Int), zs.length = k ∧ (∀ z ∈ zs, Rng z.1 ∧ Rng z.2) ∧ Rd W (some x) (prs zs) := by
      intro k
      induction k with
      | zero => intro _; exact ⟨[], rfl, by simp, Rd.nil⟩
      | succ k ih =>
        intro hk
        obtain ⟨zs, hzl, hzr, hzc⟩ := ih (by omega)
        obtain ⟨q, r1, r2, c1, c2⟩ := key k (by omega)
        refine ⟨zs ++ [q], by simp [hzl], ?_, ?_⟩
        · intro z hz
          rw [List.mem_append] at hz
          rcases hz with hz | hz
          · exact hzr z hz
          · simp at hz; subst hz; exact ⟨r1, r2⟩
        · intro j u hu
          rw [prs_append] at hu
          by_cases hj : j < (prs zs).length
          · rw [List.getElem?_append_left hj] at hu
            exact hzc j u hu
          · rw [List.getElem?_append_right (by omega)] at hu
            have hpl := prs_length zs
            rw [hzl] at hpl
            rcases Nat.lt_or_ge (j - (prs zs).length) 2 with hlt | hge
            · rcases (by omega : j - (prs zs).length = 0 ∨ j - (prs zs).length = 1) with h' | h'
              · rw [h'] at hu; simp [prs] at hu; subst hu
                exact ⟨x, rfl, by rw [show j = k * 2 from by omega]; exact c1⟩
              · rw [h'] at hu; simp [prs] at hu; subst hu
                exact ⟨x, rfl, by rw [show j = k * 2 + 1 from by omega]; exact c2⟩
            · rw [List.getElem?_eq_none (by simp [prs]; omega)] at hu
              cases hu
    obtain ⟨zs, hzl, hzr, hzc⟩ := key2 len (by omega)
    exact ⟨zs, hzl, by unfold maxLen at hm; omega, hzr, hzc⟩
end
end Go.Proofs.YtlpglibnjmjjkaaGreatDoor
namespace Go.Proofs.YtlpglibnjmjjkaaGreatDoor
open Go.RowKit
set_option linter.unusedVariables false

theorem quiet_eq {P : Program} {f : FuncId} {args : Array Value} {w : World} {n : Nat} {v : Value}
    (h : Calls P f args (w.drewN n) fun e w' => e = .returned v ∧ w.drewN n = w') : Calls P f args (w.drewN n) fun e w'' => e = .returned v ∧ ∃ m, w'' = w.drewN m :=
  h.mono fun _ _ ⟨he, hm⟩ => ⟨he, n, hm.symm⟩
theorem below_drewN (B : Nat) (w : World) (m : Nat) : Below B w (w.drewN m) := ⟨rfl, rfl, rfl, Nat.le_refl _, fun _ _ => rfl⟩

/-- low <= n <= high. -/
def inB (n lo hi : Int) : Bool := decide (lo ≤ n ∧ n ≤ hi)
theorem inB_t {n lo hi : Int} (h1 : lo ≤ n) (h2 : n ≤ hi) : inB n lo hi = true := decide_eq_true ⟨h1, h2⟩
theorem inB_f {n lo hi : Int} (h : n < lo ∨ hi < n) : inB n lo hi = false := decide_eq_false (by omega)
theorem inB_iff {n lo hi : Int} : inB n lo hi = true ↔ lo ≤ n ∧ n ≤ hi := by unfold inB; exact decide_eq_true_iff

theorem within_any (n lo hi : Int) (w : World) : Calls Tryz.prog 78 #[.int .i64 n, .int .i64 lo, .int .i64 hi] w fun e w' => e = .returned (.bool (inB n lo hi)) ∧ w = w' := by
  by_cases h1 : lo ≤ n
  · by_cases h2 : n ≤ hi
    · rw [inB_t h1 h2]
      go_enter Tryz.func78, Tryz.ntmps78
      go_wp2
      go_ret
      exact ⟨rfl, rfl⟩
    · rw [inB_f (by omega)]
      have h2' : decide (n ≤ hi) = false := decide_eq_false h2
      go_enter Tryz.func78, Tryz.ntmps78
      go_wp2
      go_ret
      exact ⟨rfl, rfl⟩
  · rw [inB_f (by omega)]
    have h1' : decide (lo ≤ n) = false := decide_eq_false h1
    go_enter Tryz.func78, Tryz.ntmps78
    go_wp2
    go_ret
    exact ⟨rfl, rfl⟩

theorem l00In_any (n lo hi : Int) (w : World) : Calls Tryz.prog 86 #[.int .i64 n, .int .i64 lo, .int .i64 hi] w fun e w' => e = .returned (.bool (inB n lo hi)) ∧ w = w' := by
  by_cases h1 : lo ≤ n
  · by_cases h2 : n ≤ hi
    · rw [inB_t h1 h2]
      go_enter Tryz.func86, Tryz.ntmps86
      go_wp2
      go_ret
      exact ⟨rfl, rfl⟩
    · rw [inB_f (by omega)]
      have h2' : decide (n ≤ hi) = false := decide_eq_false h2
      go_enter Tryz.func86, Tryz.ntmps86
      go_wp2
      go_ret
      exact ⟨rfl, rfl⟩
  · rw [inB_f (by omega)]
    have h1' : decide (lo ≤ n) = false := decide_eq_false h1
    go_enter Tryz.func86, Tryz.ntmps86
    go_wp2
    go_ret
    exact ⟨rfl, rfl⟩
end Go.Proofs.YtlpglibnjmjjkaaGreatDoor
namespace Go.Proofs.YtlpglibnjmjjkaaGreatDoor
open Go.RowKit
set_option linter.unusedVariables false

theorem info_i64 : (Tryz.prog.info? 2).map (fun i => (i.zero, i.size, i.bytes)) = some (some (.int .i64 0), 1, 8) := by kernel_rfl

end Go.Proofs.YtlpglibnjmjjkaaGreatDoor
namespace Go.Proofs.YtlpglibnjmjjkaaGreatDoor
open Go.RowKit
set_option linter.unusedVariables false

/-- Every element, with its place, passes the test. -/
def allK {α : Type} (f : Nat → α → Bool) : Nat → List α → Bool
  | _, [] => true
  | k, z :: r => f k z && allK f (k + 1) r
theorem allK_t {α : Type} (f : Nat → α → Bool) : ∀ (zs : List α) (b : Nat), (∀ k z, zs[k]? = some z → f (b + k) z = true) → allK f b zs = true
  | [], b, _ => rfl
  | z :: r, b, h => by
    unfold allK
    rw [show f b z = true from h 0 z rfl, allK_t f r (b + 1) (fun k y hy => by have := h (k + 1) y (by simpa using hy); rwa [show b + (k + 1) = b + 1 + k from by omega] at this)]
    rfl
theorem allK_f {α : Type} (f : Nat → α → Bool) : ∀ (zs : List α) (b k : Nat) (z : α), zs[k]? = some z → f (b + k) z = false → allK f b zs = false
  | [], b, k, z, h, _ => by simp at h
  | y :: r, b, 0, z, h, h' => by
    simp at h; subst h
    unfold allK; rw [show f b y = false from h']; rfl
  | y :: r, b, k + 1, z, h, h' => by
    unfold allK
    rw [allK_f f r (b + 1) k z (by simpa using h) (by rw [show b + 1 + k = b + (k + 1) from by omega]; exact h')]
    simp
theorem allK_at {α : Type} (f : Nat → α → Bool) : ∀ (zs : List α) (b k : Nat) (z : α), allK f b zs = true → zs[k]? = some z → f (b + k) z = true := fun zs b k z h hz => by
  cases hf : f (b + k) z
  · rw [allK_f f zs b k z hz hf] at h; cases h
  · rfl
/-- All the elements before place k pass. -/
def Upto {α : Type} (f : Nat → α → Bool) (zs : List α) (k : Nat) : Prop := ∀ j z, j < k → zs[j]? = some z → f j z = true
theorem Upto.zero {α : Type} (f : Nat → α → Bool) (zs : List α) : Upto f zs 0 := fun j z h _ => by omega
theorem Upto.step {α : Type} {f : Nat → α → Bool} {zs : List α} {k : Nat} {z : α} (h : Upto f zs k) (hz : zs[k]? = some z) (hf : f k z = true) : Upto f zs (k + 1) := fun j y hj hy => by
  rcases Nat.lt_or_ge j k with hlt | hge
  · exact h j y hlt hy
  · obtain rfl : j = k := by omega
    rw [hz] at hy; injection hy with hy; subst hy; exact hf
theorem Upto.all {α : Type} {f : Nat → α → Bool} {zs : List α} {k : Nat} (h : Upto f zs k) (hk : zs.length ≤ k) : allK f 0 zs = true :=
  allK_t f zs 0 fun j z hz => by
    rw [Nat.zero_add]
    refine h j z ?_ hz
    rcases Nat.lt_or_ge j zs.length with hlt | hge
    · omega
    · rw [List.getElem?_eq_none hge] at hz; cases hz

/-- Runs are a path. -/
def pthE (n : Nat) (k : Nat) (z : Int) : Bool := inB z (if k = 0 ∧ 1 < n then 0 else 1) 1000000000
def pthB (zs : List Int) : Bool := decide (zs.length ≤ 60) && allK (pthE zs.length) 0 zs
/-- A list is one of terms. -/
def trmE (k : Nat) (z : Int) : Bool := inB z (if k = 0 then -1000000000 else 1) 1000000000
def trmB (zs : List Int) : Bool := inB (zs.length : Int) 1 60 && allK trmE 0 zs
theorem trmB_iff {zs : List Int} : trmB zs = true ↔ 1 ≤ zs.length ∧ zs.length ≤ 60 ∧ ∀ k z, zs[k]? = some z → (if k = 0 then -1000000000 else 1) ≤ z ∧ z ≤ 1000000000 := by
  unfold trmB
  rw [Bool.and_eq_true, inB_iff]
  constructor
  · rintro ⟨⟨h1, h2⟩, h3⟩
    refine ⟨by omega, by omega, fun k z hz => ?_⟩
    have := allK_at trmE zs 0 k z h3 hz
    rw [Nat.zero_add] at this
    exact inB_iff.1 this
  · rintro ⟨h1, h2, h3⟩
    refine ⟨⟨by omega, by omega⟩, allK_t trmE zs 0 fun k z hz => ?_⟩
    rw [Nat.zero_add]
    exact inB_iff.2 (h3 k z hz)
end Go.Proofs.YtlpglibnjmjjkaaGreatDoor
namespace Go.Proofs.YtlpglibnjmjjkaaGreatDoor
open Go.RowKit
set_option linter.unusedVariables false
attribute [local go_sem ↓] Go.wp_at_zero Go.wp_at_succ

theorem info_sig : (Tryz.prog.info? 86).map (fun i => (i.zero, i.size, i.bytes)) = some (some (.agg #[.int .i64 0, .int .i64 0]), 2, 16) := by kernel_rfl



theorem prs_fill (zs : List (Int × Int)) (n k : Nat) (x y : Int) (hl : zs.length = n) (hk : k < n) (hz : zs[k]? = some (x, y)) :
    ((prs (zs.take k) ++ List.replicate ((n - k) * 2) (Value.int .i64 0)).set (k * 2) (Value.int .i64 x)).set (k * 2 + 1) (.int .i64 y) = prs (zs.take (k + 1)) ++ List.replicate ((n - (k + 1)) * 2) (.int .i64 0) := by
  have ht : (prs (zs.take k)).length = k * 2 := by rw [prs_length, List.length_take]; omega
  obtain ⟨m, hm⟩ : ∃ m, n - k = m + 1 := ⟨n - k - 1, by omega⟩
  rw [List.set_append_right _ _ (by omega), ht, Nat.sub_self, hm, show (m + 1) * 2 = m * 2 + 1 + 1 from by omega, List.replicate_succ, List.replicate_succ, List.set_cons_zero, List.set_append_right _ _ (by omega), ht, show k * 2 + 1 - k * 2 = 1 from by omega, List.take_add_one, hz, prs_append, show n - (k + 1) = m from by omega]
  simp [prs]
theorem prs_zero (n k : Nat) (zs : List (Int × Int)) (hl : zs.length = n) (hk : k < n) (j : Nat) (hj : j < 2) : (prs (zs.take k) ++ List.replicate ((n - k) * 2) (Value.int .i64 0))[k * 2 + j]? = some (.int .i64 0) := by
  have ht : (prs (zs.take k)).length = k * 2 := by rw [prs_length, List.length_take]; omega
  rw [List.getElem?_append_right (by omega), ht, List.getElem?_replicate, if_pos (by omega)]

theorem made2 (n : Nat) : (madeCells #[Value.int .i64 0, Value.int .i64 0] (n * 2)).toList = List.replicate (n * 2) (.int .i64 0) := by
  apply List.ext_getElem?
  intro j
  by_cases hj : j < n * 2
  · simp only [madeCells, Array.getElem?_toList]
    rcases (by omega : j % 2 = 0 ∨ j % 2 = 1) with h | h <;> simp [hj, h]
  · simp [madeCells, hj]


section
variable {w W w1 : World} {a b c d : Addr} {x y z u : Value}
theorem four_keep (h : W.cell? a = some x ∧ W.cell? b = some y ∧ W.cell? c = some z ∧ W.cell? d = some u ∧ Below w.heap.size w W) (hb : Below W.heap.size W w1) :
    w1.cell? a = some x ∧ w1.cell? b = some y ∧ w1.cell? c = some z ∧ w1.cell? d = some u ∧ Below w.heap.size w w1 :=
  ⟨(hb.cell (World.block_lt_of_cell? W a h.1)).trans h.1, (hb.cell (World.block_lt_of_cell? W b h.2.1)).trans h.2.1, (hb.cell (World.block_lt_of_cell? W c h.2.2.1)).trans h.2.2.1, (hb.cell (World.block_lt_of_cell? W d h.2.2.2.1)).trans h.2.2.2.1,
    h.2.2.2.2.trans (hb.mono h.2.2.2.2.size)⟩
theorem four_drew (h : W.cell? a = some x ∧ W.cell? b = some y ∧ W.cell? c = some z ∧ W.cell? d = some u ∧ Below w.heap.size w W) :
    W.drew.cell? a = some x ∧ W.drew.cell? b = some y ∧ W.drew.cell? c = some z ∧ W.drew.cell? d = some u ∧ Below w.heap.size w W.drew := ⟨h.1, h.2.1, h.2.2.1, h.2.2.2.1, h.2.2.2.2.drew⟩
theorem four_below (h : W.cell? a = some x ∧ W.cell? b = some y ∧ W.cell? c = some z ∧ W.cell? d = some u ∧ Below w.heap.size w W) : Below w.heap.size w W := h.2.2.2.2
end

theorem eqSigT (a b c d : Int) (w : World) : (Op.equalIn 10000 86 (.agg #[.int .i64 a, .int .i64 b]) (.agg #[.int .i64 c, .int .i64 d])).run Tryz.prog w = .ok (a == c && b == d) w := by
  have u3 := Tryz.underlying2
  have hS : Tryz.prog.underlying 86 = some (.struct (Tryz.prog.fieldsOf 86)) := by kernel_rfl
  have hp : Tryz.prog.stoodInHeld 86 = false := by kernel_rfl
  rw [show (10000 : Nat) = 9999 + 1 from rfl, run_equalIn_agg w 9999 86 _ _ hS hp]
  simp only [Program.fieldsOf, Tryz.underlying86]
  go_simp
  by_cases h1 : a = c <;> by_cases h2 : b = d <;> simp [h1, h2]

/-- Two lists of pairs are equal. -/
def sameB (zs ys : List (Int × Int)) : Bool := decide (zs = ys)
def Alike (zs ys : List (Int × Int)) (k : Nat) : Prop := ∀ j, j < k → zs[j]? = ys[j]?
theorem Alike.all {zs ys : List (Int × Int)} {k : Nat} (h : Alike zs ys k) (h1 : zs.length ≤ k) (h2 : ys.length ≤ k) : zs = ys := List.ext_getElem? fun j => by
  rcases Nat.lt_or_ge j k with hj | hj
  · exact h j hj
  · rw [List.getElem?_eq_none (by omega), List.getElem?_eq_none (by omega)]
theorem Alike.step {zs ys : List (Int × Int)} {k : Nat} (h : Alike zs ys k) (e : zs[k]? = ys[k]?) : Alike zs ys (k + 1) := fun j hj => by
  rcases Nat.lt_or_ge j k with h' | h'
  · exact h j h'
  · obtain rfl : j = k := by omega
    exact e

set_option maxHeartbeats 1000000 in
theorem equalSig_any (A : Option Addr) (n cap : Nat) (A' : Option Addr) (n' cap' : Nat) (zs ys : List (Int × Int)) (w : World) (h : PRow w A n zs) (h' : PRow w A' n' ys) :
    Calls Tryz.prog 77 #[.slice A n cap, .slice A' n' cap'] w fun e w' => e = .returned (.bool (sameB zs ys)) ∧ ∃ m, w' = w.drewN m := by
  have hbd := h.bd
  have hbd' := h'.bd
  have hlen := h.len
  have hlen' := h'.len
  by_cases hne : n = n'
  · subst hne
    have Hl := Lib.hid hlen
    have Hl' := Lib.hid hlen'
    have hw := Lib.hid h; clear h
    have hw' := Lib.hid h'; clear h'
    clear hlen hlen' hbd'
    go_enter Tryz.func77, Tryz.ntmps77
    go_wp2
    go_loopw [13] (fun i wr => ∃ k : Nat, k ≤ n ∧ i = .int .i64 k ∧ Hid (Alike zs ys k) ∧ ∃ m, wr = w.drewN m) (fun i _ => n - (intOf i).toNat)
    case atStart => exact ⟨0, Nat.zero_le _, rfl, fun j hj => absurd hj (by omega), 0, rfl⟩
    case round =>
      obtain ⟨k, hk, rfl, HA, m, rfl⟩ := hrel
      by_cases hlt : k < n
      · obtain ⟨bb, o, x, y, rfl, hz, _, _, _, _, hc1, hc2⟩ := hw.out.at_ hlt
        obtain ⟨bb', o', x', y', rfl, hz', _, _, _, _, hc1', hc2'⟩ := hw'.out.at_ hlt
        have HZ := Lib.hid hz
        have HZ' := Lib.hid hz'
        clear hz hz'
        have hb0 : (0 : Int) ≤ (k : Int) := by omega
        by_cases he : x = x' ∧ y = y'
        · obtain ⟨rfl, rfl⟩ := he
          go_wp2
          go_quiet (fail)
          go_wp2
          go_roundw
          case rel => exact ⟨k + 1, by omega, by go_num, HA.out.step (by rw [HZ.out, HZ'.out]), _, rfl⟩
          case measure => simp [intOf]; omega
        · have hq := fun W => eqSigT x y x' y' W
          have hf : (x == x' && y == y') = false := by
            cases h1 : x == x'
            · rfl
            · rw [Bool.true_and, beq_eq_false_iff_ne]
              exact fun h2 => he ⟨by simpa using h1, h2⟩
          have HE : Hid (¬ zs = ys) := fun e => he (by
            have h1 := HZ.out
            rw [e, HZ'.out] at h1
            injection h1 with h1
            injection h1 with h1 h2
            exact ⟨h1.symm, h2.symm⟩)
          clear he
          go_wp2
          go_quiet (fail)
          go_wp2
          go_ret
          exact ⟨ret_bool (decide_eq_false HE.out).symm, _, World.drewN_drewN _ _ _⟩
      · obtain rfl : n = k := by omega
        have HE : Hid (zs = ys) := HA.out.all (by have := Hl.out; omega) (by have := Hl'.out; omega)
        go_wp2
        go_ret
        exact ⟨ret_bool (decide_eq_true HE.out).symm, m, rfl⟩
  · rw [show sameB zs ys = false from decide_eq_false (fun e => hne (by rw [← hlen, ← hlen', e]))]
    clear hlen hlen'
    go_enter Tryz.func77, Tryz.ntmps77
    go_wp2
    go_ret
    exact ⟨rfl, 0, rfl⟩
set_option maxHeartbeats 1000000 in
theorem l04Same_any (A : Option Addr) (n cap : Nat) (A' : Option Addr) (n' cap' : Nat) (zs ys : List (Int × Int)) (w : World) (h : PRow w A n zs) (h' : PRow w A' n' ys) :
    Calls Tryz.prog 68 #[.slice A n cap, .slice A' n' cap'] w fun e w' => e = .returned (.bool (sameB zs ys)) ∧ ∃ m, w' = w.drewN m := by
  have hbd := h.bd
  have hbd' := h'.bd
  have hlen := h.len
  have hlen' := h'.len
  by_cases hne : n = n'
  · subst hne
    have Hl := Lib.hid hlen
    have Hl' := Lib.hid hlen'
    have hw := Lib.hid h; clear h
    have hw' := Lib.hid h'; clear h'
    clear hlen hlen' hbd'
    go_enter Tryz.func68, Tryz.ntmps68
    go_wp2
    go_loopw [5] (fun i wr => ∃ k : Nat, k ≤ n ∧ i = .int .i64 k ∧ Hid (Alike zs ys k) ∧ ∃ m, wr = w.drewN m) (fun i _ => n - (intOf i).toNat)
    case atStart => exact ⟨0, Nat.zero_le _, rfl, fun j hj => absurd hj (by omega), 0, rfl⟩
    case round =>
      obtain ⟨k, hk, rfl, HA, m, rfl⟩ := hrel
      by_cases hlt : k < n
      · obtain ⟨bb, o, x, y, rfl, hz, _, _, _, _, hc1, hc2⟩ := hw.out.at_ hlt
        obtain ⟨bb', o', x', y', rfl, hz', _, _, _, _, hc1', hc2'⟩ := hw'.out.at_ hlt
        have HZ := Lib.hid hz
        have HZ' := Lib.hid hz'
        clear hz hz'
        have hb0 : (0 : Int) ≤ (k : Int) := by omega
        by_cases he : x = x' ∧ y = y'
        · obtain ⟨rfl, rfl⟩ := he
          go_wp2
          go_quiet (fail)
          go_wp2
          go_roundw
          case rel => exact ⟨k + 1, by omega, by go_num, HA.out.step (by rw [HZ.out, HZ'.out]), _, rfl⟩
          case measure => simp [intOf]; omega
        · have hq := fun W => eqSigT x y x' y' W
          have hf : (x == x' && y == y') = false := by
            cases h1 : x == x'
            · rfl
            · rw [Bool.true_and, beq_eq_false_iff_ne]
              exact fun h2 => he ⟨by simpa using h1, h2⟩
          have HE : Hid (¬ zs = ys) := fun e => he (by
            have h1 := HZ.out
            rw [e, HZ'.out] at h1
            injection h1 with h1
            injection h1 with h1 h2
            exact ⟨h1.symm, h2.symm⟩)
          clear he
          go_wp2
          go_quiet (fail)
          go_wp2
          go_ret
          exact ⟨ret_bool (decide_eq_false HE.out).symm, _, World.drewN_drewN _ _ _⟩
      · obtain rfl : n = k := by omega
        have HE : Hid (zs = ys) := HA.out.all (by have := Hl.out; omega) (by have := Hl'.out; omega)
        go_wp2
        go_ret
        exact ⟨ret_bool (decide_eq_true HE.out).symm, m, rfl⟩
  · rw [show sameB zs ys = false from decide_eq_false (fun e => hne (by rw [← hlen, ← hlen', e]))]
    clear hlen hlen'
    go_enter Tryz.func68, Tryz.ntmps68
    go_wp2
    go_ret
    exact ⟨rfl, 0, rfl⟩

theorem implSame_b (A : Option Addr) (n cap : Nat) (A' : Option Addr) (n' cap' : Nat) (zs ys : List (Int × Int)) (w : World) (h : PRow w A n zs) (h' : PRow w A' n' ys) :
    Calls Tryz.prog 33 #[.slice A n cap, .slice A' n' cap'] w fun e w' => e = .returned (.bool (sameB zs ys)) ∧ Below w.heap.size w w' := by
  go_enter Tryz.func33, Tryz.ntmps33
  go_wp2_with fail
  refine (equalSig_any A n cap A' n' cap' zs ys _ h h').mono ?_
  rintro e w1 ⟨rfl, m, rfl⟩
  go_wp2_with fail
  go_ret
  exact ⟨rfl, below_drewN _ _ _⟩
theorem specSame_b (A : Option Addr) (n cap : Nat) (A' : Option Addr) (n' cap' : Nat) (zs ys : List (Int × Int)) (w : World) (h : PRow w A n zs) (h' : PRow w A' n' ys) :
    Calls Tryz.prog 31 #[.slice A n cap, .slice A' n' cap'] w fun e w' => e = .returned (.bool (sameB zs ys)) ∧ Below w.heap.size w w' := by
  go_enter Tryz.func31, Tryz.ntmps31
  go_wp2_with fail
  refine (l04Same_any A n cap A' n' cap' zs ys _ h h').mono ?_
  rintro e w1 ⟨rfl, m, rfl⟩
  go_wp2_with fail
  go_ret
  exact ⟨rfl, below_drewN _ _ _⟩
end Go.Proofs.YtlpglibnjmjjkaaGreatDoor
namespace Go.Proofs.YtlpglibnjmjjkaaGreatDoor
open Go.RowKit
set_option linter.unusedVariables false
attribute [local go_sem ↓] Go.wp_at_zero Go.wp_at_succ

theorem grown_trans {a b c : World} {row : Option Nat} (h : a.grownBy b row) (k : b.grownBy c row) : a.grownBy c row :=
  ⟨k.os.trans h.os, k.tape.trans h.tape, k.output.trans h.output, Nat.le_trans h.size k.size, fun i hi hr => (k.block i (Nat.lt_of_lt_of_le hi h.size) hr).trans (h.block i hi hr)⟩

/-- The marks. -/
def mkI (k : Int) (n : Nat) : List Int := (List.range n).map fun j : Nat => k + (j : Int)
def mkP (k : Int) (n : Nat) : List (Int × Int) := (List.range n).map fun j : Nat => (k + 2 * (j : Int), k + 2 * (j : Int) + 1)
theorem mkI_len (k : Int) (n : Nat) : (mkI k n).length = n := by unfold mkI; simp
theorem mkP_len (k : Int) (n : Nat) : (mkP k n).length = n := by unfold mkP; simp
theorem mkI_get (k : Int) (n j : Nat) (h : j < n) : (mkI k n)[j]? = some (k + (j : Int)) := by unfold mkI; rw [List.getElem?_map, List.getElem?_range h]; rfl
theorem mkP_get (k : Int) (n j : Nat) (h : j < n) : (mkP k n)[j]? = some (k + 2 * (j : Int), k + 2 * (j : Int) + 1) := by unfold mkP; rw [List.getElem?_map, List.getElem?_range h]; rfl

theorem set_step {α : Type} (a b : List α) (j : Nat) (u : α) (hl : a.length = b.length) (hu : a[j]? = some u) : (a.take j ++ b.drop j).set j u = a.take (j + 1) ++ b.drop (j + 1) := by
  have hj : j < a.length := by
    rcases Nat.lt_or_ge j a.length with h | h
    · exact h
    · rw [List.getElem?_eq_none h] at hu; cases hu
  have ht : (a.take j).length = j := by rw [List.length_take]; omega
  rw [List.set_append_right _ _ (by omega), ht, Nat.sub_self, List.drop_eq_getElem_cons (show j < b.length by omega), List.set_cons_zero, List.take_add_one, hu]
  simp
theorem mix_get {α : Type} (a b : List α) (j i : Nat) (hl : a.length = b.length) (hi : j ≤ i) (hj : j ≤ a.length) : (a.take j ++ b.drop j)[i]? = b[i]? := by
  have ht : (a.take j).length = j := by rw [List.length_take]; omega
  rw [List.getElem?_append_right (by omega), ht, List.getElem?_drop]
  congr 1; omega


end Go.Proofs.YtlpglibnjmjjkaaGreatDoor
namespace Go.Proofs.YtlpglibnjmjjkaaGreatDoor
open Go.RowKit
set_option linter.unusedVariables false

theorem infoF : (Tryz.prog.info? 25).map (fun i => (i.zero, i.size, i.bytes)) = some (some (.agg #[.int .i64 0, .int .i64 0]), 2, 16) := by kernel_rfl
theorem infoS : (Tryz.prog.info? 86).map (fun i => (i.zero, i.size, i.bytes)) = some (some (.agg #[.int .i64 0, .int .i64 0]), 2, 16) := by kernel_rfl

/-- A row that is cut behind is owned too. -/
theorem own_trunc {w : World} {base e size n c : Nat} {A : Option Addr} {xs : List Value} (h : w.ownsRow base e size (.slice A n c) n xs) (k : Nat) (hk : k ≤ n) : w.ownsRow base e size (.slice A k c) k (xs.take (k * size)) := by
  have hl := h.1
  refine ⟨by rw [List.length_take, hl]; exact Nat.min_eq_left (Nat.mul_le_mul_right _ hk), ?_⟩
  rcases h.2 with ⟨hv, hn⟩ | ⟨g, cap, cur, hv, hb, hg, hnc, hcm, hcs, htake⟩
  · injection hv with hA _ hc
    subst hA hc
    have : k = 0 := by omega
    subst this
    exact .inl ⟨rfl, rfl⟩
  · injection hv with hA _ hc
    subst hA hc
    exact .inr ⟨g, c, cur, rfl, hb, hg, by omega, hcm, hcs, by rw [← htake, List.take_take, Nat.min_eq_left (Nat.mul_le_mul_right _ hk)]⟩
theorem own_truncI {w : World} {base e n c : Nat} {A : Option Addr} {zs : List Int} (h : w.ownsRow base e 1 (.slice A n c) n (zs.map (Value.int .i64))) (k : Nat) (hk : k ≤ n) : w.ownsRow base e 1 (.slice A k c) k ((zs.take k).map (Value.int .i64)) := by
  have := own_trunc h k hk
  rwa [Nat.mul_one, ← List.map_take] at this
theorem own_lenI {w : World} {base e n : Nat} {v : Value} {zs : List Int} (h : w.ownsRow base e 1 v n (zs.map (Value.int .i64))) : zs.length = n := by have := h.1; simpa using this
theorem own_lenP {w : World} {base e n : Nat} {v : Value} {zs : List (Int × Int)} (h : w.ownsRow base e 2 v n (prs zs)) : zs.length = n := by have := h.1; rw [prs_length] at this; omega
/-- A number stored into an owned row. -/
theorem own_setI {w : World} {base e n c g : Nat} {zs : List Int} (h : w.ownsRow base e 1 (.slice (some ⟨g, 0, none⟩) n c) n (zs.map (Value.int .i64))) (k : Nat) (v : Int) :
    (w.setCell ⟨g, k, none⟩ (.int .i64 v)).ownsRow base e 1 (.slice (some ⟨g, 0, none⟩) n c) n ((zs.set k v).map (Value.int .i64)) := by
  have := (h.stored k (.int .i64 v)).1
  rwa [← List.map_set] at this
theorem own_cellI {w : World} {base e n c g : Nat} {zs : List Int} {k : Nat} {z : Int} (h : w.ownsRow base e 1 (.slice (some ⟨g, 0, none⟩) n c) n (zs.map (Value.int .i64))) (hz : zs[k]? = some z) : w.cell? ⟨g, k, none⟩ = some (.int .i64 z) := by
  have hl := own_lenI h
  have hk : k < n := by
    rcases Nat.lt_or_ge k zs.length with h' | h'
    · omega
    · rw [List.getElem?_eq_none h'] at hz; cases hz
  rw [h.cellAt k (by omega), List.getElem?_map, hz]; rfl

/-- A slice of numbers, the call's own. -/
def RetI (base : Nat) (zs : List Int) (e : Ending) (w : World) : Prop :=
  ∃ A c, e = .returned (.slice A zs.length c) ∧ w.ownsRow base 2 1 (.slice A zs.length c) zs.length (zs.map (Value.int .i64))
/-- The same, and a code. -/
def ResI (base : Nat) (zs : List Int) (k : Int) (e : Ending) (w : World) : Prop :=
  ∃ A c, e = .returned (.tuple #[.slice A zs.length c, .int .i64 k]) ∧ w.ownsRow base 2 1 (.slice A zs.length c) zs.length (zs.map (Value.int .i64))
def RetF (base : Nat) (zs : List (Int × Int)) (e : Ending) (w : World) : Prop :=
  ∃ A c, e = .returned (.slice A zs.length c) ∧ w.ownsRow base 25 2 (.slice A zs.length c) zs.length (prs zs)
def ResF (base : Nat) (zs : List (Int × Int)) (k : Int) (e : Ending) (w : World) : Prop :=
  ∃ A c, e = .returned (.tuple #[.slice A zs.length c, .int .i64 k]) ∧ w.ownsRow base 25 2 (.slice A zs.length c) zs.length (prs zs)
def ResFb (base : Nat) (zs : List (Int × Int)) (k : Bool) (e : Ending) (w : World) : Prop :=
  ∃ A c, e = .returned (.tuple #[.slice A zs.length c, .bool k]) ∧ w.ownsRow base 25 2 (.slice A zs.length c) zs.length (prs zs)
def ResS (base : Nat) (zs : List (Int × Int)) (k : Int) (e : Ending) (w : World) : Prop :=
  ∃ A c, e = .returned (.tuple #[.slice A zs.length c, .int .i64 k]) ∧ w.ownsRow base 86 2 (.slice A zs.length c) zs.length (prs zs)
def ResSb (base : Nat) (zs : List (Int × Int)) (k : Bool) (e : Ending) (w : World) : Prop :=
  ∃ A c, e = .returned (.tuple #[.slice A zs.length c, .bool k]) ∧ w.ownsRow base 86 2 (.slice A zs.length c) zs.length (prs zs)
theorem rng_mkI (n : Nat) (h : n ≤ 1099511627776) : ∀ z ∈ mkI 1 n, Rng z := by
  intro z hz
  unfold mkI at hz
  obtain ⟨j, hj, rfl⟩ := List.mem_map.mp hz
  have := List.mem_range.mp hj
  unfold Rng
  omega
theorem rng_mkP (n : Nat) (h : n ≤ 1099511627776) : ∀ z ∈ mkP 1 n, Rng z.1 ∧ Rng z.2 := by
  intro z hz
  unfold mkP at hz
  obtain ⟨j, hj, rfl⟩ := List.mem_map.mp hz
  have := List.mem_range.mp hj
  unfold Rng
  simp only
  omega
theorem setS {w : World} {a : Addr} {u v : Value} (h : w.cell? a = some u) : (w.setCell a v).cell? a = some v := World.cell?_setCell_same _ _ _ h
theorem setO {w : World} {a b : Addr} {u v : Value} (e : a ≠ b) (h : w.cell? b = some u) : (w.setCell a v).cell? b = some u := (World.cell?_setCell_other _ _ _ _ e).trans h
theorem setF {w : World} {a b : Addr} {v : Value} {f : Bool} (h : w.frozen? b = f) : (w.setCell a v).frozen? b = f := (World.frozen?_setCell ..).trans h
theorem grown_set {w w' : World} {g : Nat} (h : w.grownBy w' (some g)) (k : Nat) (v : Value) : w.grownBy (w'.setCell ⟨g, k, none⟩ v) (some g) :=
  grown_trans h ⟨rfl, rfl, rfl, by simp, fun i hi hr => Below.heap_setCell _ _ _ i (fun e => hr (by rw [e]))⟩
theorem grown_drew {w w' : World} {row : Option Nat} (h : w.grownBy w' row) : w.grownBy w'.drew row := grown_trans h ⟨rfl, rfl, rfl, by simp, fun i hi hr => rfl⟩
theorem newcell {W : World} {cs : Array Value} {t : TypeId} {n j : Nat} {u : Value} (hn : W.heap.size = n) (h : cs.toList[j]? = some u) : (W.alloc (.cells cs t)).cell? ((⟨n, 0, none⟩ : Addr).add j) = some u := by
  subst hn
  exact World.news_of_block (heap_alloc_new W _) j u h
theorem newcellA {W : World} {cs : Array Value} {t : TypeId} {n j : Nat} {u : Value} (hn : W.heap.size = n) (h : cs.toList[j]? = some u) : (W.alloc (.cells cs t)).cell? ⟨n, j, none⟩ = some u := by
  have := newcell (t := t) hn h
  rwa [addr_zero] at this
end Go.Proofs.YtlpglibnjmjjkaaGreatDoor
namespace Go.Proofs.YtlpglibnjmjjkaaGreatDoor
open Go.Lib
set_option linter.unusedVariables false

/-- Is it a digit? -/
def isDg (c : UInt8) : Bool := decide (48 ≤ c.toNat ∧ c.toNat ≤ 57)
/-- What digits spell behind others. -/
def valL : Nat → List UInt8 → Nat
  | a, [] => a
  | a, c :: r => valL (a * 10 + (c.toNat - 48)) r
def allD (l : List UInt8) : Bool := l.all isDg
theorem valL_app : ∀ (l r : List UInt8) (a : Nat), valL a (l ++ r) = valL (valL a l) r
  | [], _, _ => rfl
  | c :: l, r, a => valL_app l r _
theorem valL_ge : ∀ (l : List UInt8) (a : Nat), a ≤ valL a l
  | [], a => Nat.le_refl _
  | c :: l, a => Nat.le_trans (by omega) (valL_ge l (a * 10 + (c.toNat - 48)))
theorem allD_app (l r : List UInt8) : allD (l ++ r) = (allD l && allD r) := by unfold allD; rw [List.all_append]
theorem allD_cons (c : UInt8) (r : List UInt8) : allD (c :: r) = (isDg c && allD r) := by unfold allD; rw [List.all_cons]
theorem dig_u8 {u : Nat} (h : u < 10) : (UInt8.ofNat (48 + u)).toNat = 48 + u := by
  rw [UInt8.toNat_ofNat']; omega
theorem isDg_dig {u : Nat} (h : u < 10) : isDg (UInt8.ofNat (48 + u)) = true := by
  unfold isDg; rw [dig_u8 h]; exact decide_eq_true (by omega)
theorem dec_small {u : Nat} (h : u < 10) : decDigits u = [UInt8.ofNat (48 + u)] := by rw [decDigits, dif_pos h]
theorem dec_big {u : Nat} (h : ¬ u < 10) : decDigits u = decDigits (u / 10) ++ [UInt8.ofNat (48 + u % 10)] := by rw [decDigits, dif_neg h]
theorem valL_dec (u : Nat) : valL 0 (decDigits u) = u ∧ allD (decDigits u) = true ∧ decDigits u ≠ [] := by
  induction u using Nat.strongRecOn with
  | ind u ih =>
    by_cases h : u < 10
    · rw [dec_small h]
      refine ⟨?_, ?_, by simp⟩
      · show 0 * 10 + ((UInt8.ofNat (48 + u)).toNat - 48) = u
        rw [dig_u8 h]; omega
      · rw [allD_cons, isDg_dig h]; rfl
    · obtain ⟨h1, h2, _⟩ := ih (u / 10) (by omega)
      rw [dec_big h, valL_app, h1, allD_app, h2]
      refine ⟨?_, ?_, by simp⟩
      · show u / 10 * 10 + ((UInt8.ofNat (48 + u % 10)).toNat - 48) = u
        rw [dig_u8 (by omega)]; omega
      · rw [allD_cons, isDg_dig (by omega)]; rfl
theorem valL_lt : ∀ (l : List UInt8) (a : Nat), allD l = true → valL a l < (a + 1) * 10 ^ l.length
  | [], a, _ => by show a < (a + 1) * 10 ^ 0; omega
  | c :: l, a, h => by
    rw [allD_cons, Bool.and_eq_true] at h
    have hd := of_decide_eq_true (h.1 : decide _ = true)
    have := valL_lt l (a * 10 + (c.toNat - 48)) h.2
    rw [List.length_cons, Nat.pow_succ]
    have e : (a * 10 + (c.toNat - 48) + 1) * 10 ^ l.length ≤ ((a + 1) * 10) * 10 ^ l.length := Nat.mul_le_mul_right _ (by omega)
    have e2 : (a + 1) * (10 ^ l.length * 10) = ((a + 1) * 10) * 10 ^ l.length := by rw [Nat.mul_comm (10 ^ l.length) 10, Nat.mul_assoc]
    rw [e2]
    exact Nat.lt_of_lt_of_le this e

/-- What lies behind a sign. -/
def tmL : List UInt8 → List UInt8
  | [] => []
  | c :: r => if c.toNat = 45 then r else c :: r
def ngL : List UInt8 → Bool
  | [] => false
  | c :: _ => decide (c.toNat = 45)
/-- The number that a text spells. -/
def valI (l : List UInt8) : Int := if ngL l = true then -(valL 0 (tmL l) : Int) else (valL 0 (tmL l) : Int)
/-- Is it the decimal form of a number of at most 18 digits? -/
def rdB (l : List UInt8) : Bool := decide ((tmL l).length ≤ 18 ∧ itoa (valI l) = l)

theorem not_dash {c : UInt8} (h : isDg c = true) : ¬ c.toNat = 45 ∧ ¬ c.toNat = 43 := by
  have := of_decide_eq_true (h : decide _ = true)
  omega
theorem c45 : (45 : UInt8).toNat = 45 := by decide
theorem tm_dec (u : Nat) : tmL (decDigits u) = decDigits u ∧ ngL (decDigits u) = false := by
  obtain ⟨_, h2, h3⟩ := valL_dec u
  match hd : decDigits u, h2, h3 with
  | c :: r, h2, _ =>
    rw [allD_cons, Bool.and_eq_true] at h2
    have := not_dash h2.1
    exact ⟨if_neg this.1, decide_eq_false this.1⟩
theorem tm_itoa (n : Int) : tmL (itoa n) = decDigits n.natAbs ∧ ngL (itoa n) = decide (n < 0) := by
  unfold itoa
  by_cases h : n < 0
  · rw [if_pos h]
    exact ⟨by show (if (45 : UInt8).toNat = 45 then decDigits n.natAbs else 45 :: decDigits n.natAbs) = _; rw [if_pos c45], by rw [decide_eq_true h]; exact decide_eq_true c45⟩
  · rw [if_neg h, decide_eq_false h]
    obtain ⟨h1, h2⟩ := tm_dec n.toNat
    exact ⟨by rw [h1]; congr 1; omega, h2⟩
theorem val_itoa (n : Int) : valI (itoa n) = n := by
  obtain ⟨h1, h2⟩ := tm_itoa n
  unfold valI
  rw [h1, h2, (valL_dec _).1]
  by_cases h : n < 0
  · rw [if_pos (decide_eq_true h)]; omega
  · rw [if_neg (by simpa using h)]; omega
theorem itoa_inj {a b : Int} (h : itoa a = itoa b) : a = b := by rw [← val_itoa a, h, val_itoa]
theorem itoa_ne (n : Int) : itoa n ≠ [] := by
  unfold itoa
  split
  · simp
  · exact (valL_dec _).2.2
/-- The bytes of a numeral: digits, and a sign. -/
theorem itoa_bytes (n : Int) : ∀ c ∈ itoa n, (48 ≤ c.toNat ∧ c.toNat ≤ 57) ∨ c.toNat = 45 := by
  intro c hc
  have hd : ∀ u, c ∈ decDigits u → 48 ≤ c.toNat ∧ c.toNat ≤ 57 := fun u h => by
    have := (valL_dec u).2.1
    unfold allD at this
    rw [List.all_eq_true] at this
    exact of_decide_eq_true (this c h : decide _ = true)
  unfold itoa at hc
  split at hc
  · rcases List.mem_cons.1 hc with h | h
    · right; rw [h]; decide
    · exact .inl (hd _ h)
  · exact .inl (hd _ hc)
theorem rdB_iff {l : List UInt8} : rdB l = true ↔ (tmL l).length ≤ 18 ∧ itoa (valI l) = l := by unfold rdB; exact decide_eq_true_iff
/-- What such a text is. -/
theorem rdB_form {l : List UInt8} (h : rdB l = true) : tmL l = decDigits (valI l).natAbs ∧ ngL l = decide (valI l < 0) ∧ allD (tmL l) = true ∧ tmL l ≠ [] ∧ (valI l).natAbs < 1000000000000000000 := by
  obtain ⟨h1, h2⟩ := rdB_iff.1 h
  obtain ⟨k1, k2⟩ := tm_itoa (valI l)
  rw [h2] at k1 k2
  obtain ⟨v1, v2, v3⟩ := valL_dec (valI l).natAbs
  refine ⟨k1, k2, by rw [k1]; exact v2, by rw [k1]; exact v3, ?_⟩
  have := valL_lt (decDigits (valI l).natAbs) 0 v2
  rw [v1] at this
  rw [k1] at h1
  have h3 : 10 ^ (decDigits (valI l).natAbs).length ≤ 10 ^ 18 := Nat.pow_le_pow_right (by omega) h1
  have h4 : (10 : Nat) ^ 18 = 1000000000000000000 := by decide
  omega
theorem rdB_itoa {n : Int} (h : n.natAbs < 1000000000000000000) : rdB (itoa n) = true := by
  refine rdB_iff.2 ⟨?_, by rw [val_itoa]⟩
  rw [(tm_itoa n).1, decDigits_length]
  rcases Nat.lt_or_ge 18 (nDigits n.natAbs) with hl | hl
  · exfalso
    have hp : ∀ u : Nat, 10 ^ (nDigits u - 1) ≤ u ∨ u = 0 := by
      intro u
      induction u using Nat.strongRecOn with
      | ind u ih =>
        by_cases hu : u < 10
        · rw [nDigits_small hu]; simp; omega
        · rw [nDigits_big hu]
          have h0 := nDigits_pos (u / 10)
          obtain ⟨k, hk⟩ : ∃ k, nDigits (u / 10) = k + 1 := ⟨nDigits (u / 10) - 1, by omega⟩
          rcases ih (u / 10) (by omega) with h1 | h1
          · rw [hk] at h1 ⊢
            simp only [Nat.add_sub_cancel] at h1 ⊢
            left
            rw [Nat.pow_succ]; omega
          · omega
    have h3 : 10 ^ 18 ≤ 10 ^ (nDigits n.natAbs - 1) := Nat.pow_le_pow_right (by omega) (by omega)
    have h4 : (10 : Nat) ^ 18 = 1000000000000000000 := by decide
    have hu : ¬ n.natAbs = 0 := by
      intro e
      rw [e, nDigits_small (by omega)] at hl; omega
    rcases hp n.natAbs with h1 | h1
    · omega
    · exact hu h1
  · exact hl

/-- The digits, none for 0. -/
def digsU (u : Nat) : List UInt8 := if h : u = 0 then [] else digsU (u / 10) ++ [UInt8.ofNat (48 + u % 10)]
termination_by u
decreasing_by omega
theorem digsU_zero : digsU 0 = [] := by rw [digsU]; simp
theorem digsU_pos {u : Nat} (h : 0 < u) : digsU u = digsU (u / 10) ++ [UInt8.ofNat (48 + u % 10)] := by rw [digsU]; simp [show u ≠ 0 by omega]
theorem dec_digs (u : Nat) : 0 < u → decDigits u = digsU u := by
  induction u using Nat.strongRecOn with
  | ind u ih =>
    intro h
    by_cases hu : u < 10
    · rw [dec_small hu, digsU_pos h, show u / 10 = 0 by omega, digsU_zero, show u % 10 = u by omega]; rfl
    · rw [dec_big hu, digsU_pos h, ih (u / 10) (by omega) (by omega)]
theorem digsU_len : ∀ (k u : Nat), u < 10 ^ k → (digsU u).length ≤ k
  | 0, u, h => by
    have : u = 0 := by simpa using h
    subst this; rw [digsU_zero]; exact Nat.le_refl _
  | k + 1, u, h => by
    rcases Nat.eq_zero_or_pos u with h0 | h0
    · subst h0; rw [digsU_zero]; simp
    · rw [digsU_pos h0, List.length_append]
      have := digsU_len k (u / 10) (by rw [Nat.pow_succ] at h; omega)
      simp; omega

/-! ### The library's parser -/
theorem parseM_ok : ∀ (l : List UInt8) (M a : Nat), M ≤ 18446744073709551615 → allD l = true → valL a l ≤ M → parseUintM M a l = .ok (valL a l)
  | [], M, a, _, _, _ => rfl
  | c :: r, M, a, hM, h, hv => by
    rw [allD_cons, Bool.and_eq_true] at h
    have hd := of_decide_eq_true (h.1 : decide _ = true)
    have hg := valL_ge r (a * 10 + (c.toNat - 48))
    have hv' : valL (a * 10 + (c.toNat - 48)) r ≤ M := hv
    unfold parseUintM
    rw [if_pos hd, if_neg (by omega), if_neg (by omega)]
    exact parseM_ok r M _ hM h.2 hv
theorem parseM_inv : ∀ (l : List UInt8) (M a u : Nat), parseUintM M a l = .ok u → allD l = true ∧ u = valL a l
  | [], M, a, u, h => by
    simp only [parseUintM] at h
    injection h with h
    exact ⟨rfl, h.symm⟩
  | c :: r, M, a, u, h => by
    unfold parseUintM at h
    split at h
    · rename_i hd
      split at h
      · cases h
      · split at h
        · cases h
        · obtain ⟨h1, h2⟩ := parseM_inv r M _ u h
          exact ⟨by rw [allD_cons, h1]; unfold isDg; rw [decide_eq_true hd]; rfl, h2⟩
    · cases h
theorem parseB_dec {u : Nat} (h : u < 1000000000000000000) : parseUintB 64 (decDigits u) = .ok u := by
  obtain ⟨h1, h2, h3⟩ := valL_dec u
  unfold parseUintB
  have := parseM_ok (decDigits u) (2 ^ 64 - 1) 0 (by decide) h2 (by rw [h1]; have : (2 : Nat) ^ 64 - 1 = 18446744073709551615 := by decide
                                                                    omega)
  rw [if_neg h3, this, h1]
theorem parse_itoa {n : Int} (h : n.natAbs < 1000000000000000000) : parseIntB 64 (itoa n) = .ok n := by
  have p1 : (2 : Nat) ^ (64 - 1) = 9223372036854775808 := by decide
  have p2 : (2 : Int) ^ (64 - 1) = 9223372036854775808 := by decide
  unfold itoa
  by_cases hn : n < 0
  · rw [if_pos hn]
    unfold parseIntB
    simp only [show (45 : UInt8).toNat = 45 from by decide, or_true, if_true]
    rw [parseB_dec h]
    simp only [p1]
    rw [if_neg (by simp), if_neg (by omega)]
    congr 1; omega
  · rw [if_neg hn]
    have hp := parseB_dec (u := n.toNat) (by omega)
    obtain ⟨_, v2, v3⟩ := valL_dec n.toNat
    match hd : decDigits n.toNat, v2, v3 with
    | c :: r, v2, _ =>
      rw [allD_cons, Bool.and_eq_true] at v2
      obtain ⟨n1, n2⟩ := not_dash v2.1
      rw [hd] at hp
      unfold parseIntB
      simp only
      rw [if_neg (by omega), hp]
      simp only [p1]
      rw [if_neg (by omega), if_neg (by omega), if_neg n1]
      congr 1; omega
/-- The program's reading is the plain one. -/
theorem rd_ok {l : List UInt8} (h : rdB l = true) : parseIntB 64 l = .ok (valI l) := by
  obtain ⟨_, h2⟩ := rdB_iff.1 h
  have := parse_itoa (rdB_form h).2.2.2.2
  rwa [h2] at this
theorem rd_no {l : List UInt8} {v : Int} (h : rdB l = false) (hl : (tmL l).length ≤ 18) : itoa v ≠ l := by
  intro e
  have : rdB l = true := rdB_iff.2 ⟨hl, by rw [← e, val_itoa]⟩
  rw [this] at h; cases h
/-- Not the decimal form of any number, from the spec's side. -/
theorem rd_spec {l : List UInt8} (hl : (tmL l).length ≤ 18) : rdB l = decide (itoa (valI l) = l) := by
  unfold rdB
  by_cases h : itoa (valI l) = l
  · rw [decide_eq_true ⟨hl, h⟩, decide_eq_true h]
  · rw [decide_eq_false (fun e => h e.2), decide_eq_false h]
end Go.Proofs.YtlpglibnjmjjkaaGreatDoor
namespace Go.Proofs.YtlpglibnjmjjkaaGreatDoor
open Go.RowKit
set_option linter.unusedVariables false
set_option linter.unusedSimpArgs false
attribute [local go_sem ↓] Go.wp_at_zero Go.wp_at_succ

theorem info_u8 : (Tryz.prog.info? 5).map (fun i => (i.zero, i.size, i.bytes)) = some (some (.int .u8 0), 1, 1) := by kernel_rfl
/-- The table of the powers of ten. -/
def Dr (w : World) : Prop := Lib.TabIs Tryz.prog w "internal/strconv.uint64pow10" .u64 Lib.pow10Tab
theorem Dr.below {w w' : World} (h : Dr w) (hb : Below w.heap.size w w') : Dr w' := Lib.tabBelow_of_tabIs h w' hb
theorem Dr.belowB {B : Nat} {w w' : World} (h : Dr w) (hb : Below w.heap.size w w') : Dr w' := h.below hb
/-- A numeral as a string. -/
def decS (n : Int) : ByteArray := ⟨(Lib.itoa n).toArray⟩
theorem decS_data (n : Int) : (decS n).data.toList = Lib.itoa n := by unfold decS; simp
theorem str_ext {a b : ByteArray} (h : a.data.toList = b.data.toList) : a = b := by
  cases a; cases b; simp at h; rw [h]

theorem decimal_any (n : Int) (w : World) (h0 : -9223372036854775808 ≤ n) (h1 : n ≤ 9223372036854775807) (hd : Dr w) :
    Calls Tryz.prog 52 #[.int .i64 n] w fun e w' => e = .returned (.string (decS n)) ∧ Below w.heap.size w w' := by
  have HF := Lib.hid (Tryz.strconv_FormatInt_10 n h0 h1 w hd)
  clear hd
  go_enter Tryz.func52, Tryz.ntmps52
  go_wp2_with fail
  refine HF.out.mono ?_
  rintro e w1 ⟨rfl, k, os, rfl⟩
  have hb := Lib.below_grow w.heap.size w (Nat.le_refl _) k os
  generalize Sort.grow (w.drewN k) os = w1 at *
  go_wp2_with fail
  go_ret
  exact ⟨rfl, hb⟩

theorem itoa_zero : Lib.itoa 0 = [48] := by
  unfold Lib.itoa
  rw [if_neg (by omega)]
  show Lib.decDigits 0 = _
  rw [dec_small (by omega)]; rfl
theorem itoa_negd {n : Int} (h : n < 0) : Lib.itoa n = 45 :: digsU n.natAbs := by
  unfold Lib.itoa
  rw [if_pos h, dec_digs _ (by omega)]
theorem itoa_posd {n : Int} (h : 0 < n) : Lib.itoa n = digsU n.natAbs := by
  unfold Lib.itoa
  rw [if_neg (by omega), dec_digs _ (by omega), show n.toNat = n.natAbs by omega]
theorem tdiv10 (k : Int) : (k.tdiv 10).natAbs = k.natAbs / 10 := by rw [Int.natAbs_tdiv]; rfl
theorem tmod10 (k : Int) : (k.tmod 10).natAbs = k.natAbs % 10 := by rw [Int.natAbs_tmod]; rfl
theorem u8_dig (d : Nat) (h : d < 10) : (UInt8.ofNat (48 + d)).toNat = 48 + d := dig_u8 h
set_option maxRecDepth 100000 in
set_option maxHeartbeats 3200000 in
theorem l01Dec_any (n : Int) (w : World) (h0 : -9223372036854775808 ≤ n) (h1 : n ≤ 9223372036854775807) :
    Calls Tryz.prog 108 #[.int .i64 n] w fun e w' => e = .returned (.string (decS n)) ∧ Below w.heap.size w w' := by
  obtain ⟨i0, hi, hz0, hz1, hz2⟩ := info_parts info_u8
  have hlen : (digsU n.natAbs).length ≤ 20 := digsU_len 20 _ (by have : (10 : Nat) ^ 20 = 100000000000000000000 := by decide
                                                                 omega)
  have HLen := Lib.hid hlen
  have HO0 := Lib.hid (World.ownsRow_made (e := 5) (size := 1) w #[] 0 (Nat.le_refl _) (by decide) rfl)
  clear hlen
  go_enter Tryz.func108, Tryz.ntmps108
  go_wp2_with fail
  go_loopw [3, 4] (fun l i wr => ∃ (k : Int) (m c g : Nat) (bs : List UInt8), l = .slice (some ⟨g, 0, none⟩) m c ∧ i = .int .i64 k ∧ -9223372036854775808 ≤ k ∧ k ≤ 9223372036854775807 ∧
    wr.ownsRow w.heap.size 5 1 (.slice (some ⟨g, 0, none⟩) m c) m (Lib.byteCells bs) ∧ Hid (digsU n.natAbs = digsU k.natAbs ++ bs) ∧ Below w.heap.size w wr) (fun _ i _ => (intOf i).natAbs)
  case atStart => exact ⟨n, 0, 0, _, [], rfl, rfl, h0, h1, by have := HO0.out; simpa [Lib.byteCells] using this, by show digsU n.natAbs = digsU n.natAbs ++ []; rw [List.append_nil], (Below.refl _ _).alloc (Nat.le_refl _) _⟩
  case round =>
    obtain ⟨k, m, c, g, bs, rfl, rfl, k0, k1, hown, HE, hbel⟩ := hrel
    have hbl : bs.length = m := by have := hown.1; rw [Lib.byteCells_length] at this; omega
    have hm20 : m ≤ 20 := by have h := HLen.out; rw [HE.out, List.length_append] at h; omega
    by_cases hk : k = 0
    · subst hk
      have he : digsU n.natAbs = bs := by have h := HE.out; rwa [show (0 : Int).natAbs = 0 from rfl, digsU_zero, List.nil_append] at h
      rcases (by omega : n = 0 ∨ n < 0 ∨ 0 < n) with hn | hn | hn
      · have hm0 : m = 0 := by rw [← hbl, ← he, hn, show (0 : Int).natAbs = 0 from rfl, digsU_zero]; rfl
        subst hm0
        have HN := Lib.hid hn
        have HB := Lib.hid hbel
        clear hn he hbl hown hbel HE
        go_wp2_with fail
        go_ret
        exact ⟨ret_str (str_ext (by rw [HN.out, decS_data, itoa_zero])), HB.out⟩
      · have hm0 : 0 < m := by
          rw [← hbl, ← he, digsU_pos (by omega)]; simp
        have hcv := run_convert_bytes_back (P := Tryz.prog) wr 22 9 5 ⟨g, 0, none⟩ c bs Tryz.underlying22 Tryz.underlying5 Tryz.underlying9 (fun j hj => by
          rw [addr_zero, hown.cellAt j (by omega)]; simp [Lib.byteCells, hj])
        rw [hbl] at hcv
        have hb20 : bs.length ≤ 20 := by omega
        have hit : Lib.itoa n = (45 :: bs) := by rw [itoa_negd hn, he]
        have HI := Lib.hid hit
        have HB := Lib.hid hbel
        clear he hbl hown hbel HE hit
        go_wp2_with fail
        go_ret
        exact ⟨ret_str (str_ext (by rw [decS_data, HI.out] <;> simp)), HB.out⟩
      · have hm0 : 0 < m := by
          rw [← hbl, ← he, digsU_pos (by omega)]; simp
        have hcv := run_convert_bytes_back (P := Tryz.prog) wr 22 9 5 ⟨g, 0, none⟩ c bs Tryz.underlying22 Tryz.underlying5 Tryz.underlying9 (fun j hj => by
          rw [addr_zero, hown.cellAt j (by omega)]; simp [Lib.byteCells, hj])
        rw [hbl] at hcv
        have hb20 : bs.length ≤ 20 := by omega
        have hit : Lib.itoa n = bs := by rw [itoa_posd hn, he]
        have HI := Lib.hid hit
        have HB := Lib.hid hbel
        clear he hbl hown hbel HE hit
        go_wp2_with fail
        go_ret
        exact ⟨ret_str (str_ext (by rw [decS_data, HI.out] <;> simp)), HB.out⟩
    · have e1 := tdiv10 k
      have e2 := tmod10 k
      have hdg : digsU k.natAbs = digsU (k.tdiv 10).natAbs ++ [UInt8.ofNat (48 + (k.tmod 10).natAbs)] := by rw [digsU_pos (by omega), e1, e2]
      have HE' := Lib.hid (show digsU n.natAbs = digsU (k.tdiv 10).natAbs ++ (UInt8.ofNat (48 + (k.tmod 10).natAbs) :: bs) by rw [HE.out, hdg, List.append_assoc]; rfl)
      have b1 : -9 ≤ k.tmod 10 := by omega
      have b2 : k.tmod 10 ≤ 9 := by omega
      have b3 : (k.tdiv 10).natAbs < k.natAbs := by omega
      have HO := Lib.hid hown
      have HB := Lib.hid hbel
      have HBL := Lib.hid hbl
      have hwr : w.heap.size ≤ wr.heap.size := hbel.size
      have B3 := Lib.hid b3
      have hkn : (k != 0) = true := bne_iff_ne.2 hk
      clear hdg e1 e2 hown hbel hbl b3 hk
      rcases (by omega : k.tmod 10 < 0 ∨ 0 ≤ k.tmod 10) with hs | hs
      · have HOn := Lib.hid (show (wr.alloc (.cells #[.int .u8 (48 + -k.tmod 10)] 5)).ownsRow w.heap.size 5 1 (.slice (some ⟨wr.heap.size, 0, none⟩) 1 1) 1 [.int .u8 (48 + -k.tmod 10)] from ⟨by simp, .inr ⟨wr.heap.size, 1, #[.int .u8 (48 + -k.tmod 10)], rfl, hwr, heap_alloc_new wr _, Nat.le_refl _, by decide, rfl, by simp⟩⟩)
        have HO2 := Lib.hid (HO.out.alloc (.cells #[.int .u8 (48 + -k.tmod 10)] 5))
        go_wp2_with (at_builtin; refine wpList_append_own_at _ rfl (.tmp 21) (.tmp 22) 22 rfl w.heap.size 5 i0 (.int .u8 0) 1 1 Tryz.underlying22 hi hz0 hz1 hz2 rfl (by decide) _ 1 [.int .u8 (48 + -k.tmod 10)] (by rfl) HOn.out ⟨g, 0, none⟩ m c (Lib.byteCells bs) (by rfl) (by rw [Lib.byteCells_length, HBL.out, Nat.mul_one]) (fun j u hu => by rw [addr_zero]; exact (HO2.out.cellAt j (by have := (List.getElem?_eq_some_iff.1 hu).1; rw [Lib.byteCells_length, HBL.out] at this; omega)).trans hu) (Lib.byteCells_one bs) (by show 1 + m ≤ 9223372036854775807; omega) (by omega) (by simp; omega) ?_; intro v' wn hown hgrow hnil hat; obtain ⟨g', cap1, rfl, hg', hlt⟩ := hown.form (by omega))
        have hcell : Value.int .u8 (48 + -k.tmod 10) = .int .u8 ((UInt8.ofNat (48 + (k.tmod 10).natAbs)).toNat : Nat) := by rw [u8_dig _ (by omega)]; congr 1; omega
        go_roundw
        case rel =>
          refine ⟨k.tdiv 10, 1 + m, cap1, g', UInt8.ofNat (48 + (k.tmod 10).natAbs) :: bs, rfl, rfl, by have := B3.out; omega, by have := B3.out; omega, ?_, HE'.out, ?_⟩
          · have h := hown
            rw [hcell] at h
            exact h
          · exact (HB.out.alloc hwr _).grown hgrow (by simp; omega) (fun k hk => by simp [Value.ownBlock] at hk; omega)
        case measure => show (k.tdiv 10).natAbs < k.natAbs; exact B3.out
      · have HOn := Lib.hid (show (wr.alloc (.cells #[.int .u8 (48 + k.tmod 10)] 5)).ownsRow w.heap.size 5 1 (.slice (some ⟨wr.heap.size, 0, none⟩) 1 1) 1 [.int .u8 (48 + k.tmod 10)] from ⟨by simp, .inr ⟨wr.heap.size, 1, #[.int .u8 (48 + k.tmod 10)], rfl, hwr, heap_alloc_new wr _, Nat.le_refl _, by decide, rfl, by simp⟩⟩)
        have HO2 := Lib.hid (HO.out.alloc (.cells #[.int .u8 (48 + k.tmod 10)] 5))
        go_wp2_with (at_builtin; refine wpList_append_own_at _ rfl (.tmp 21) (.tmp 22) 22 rfl w.heap.size 5 i0 (.int .u8 0) 1 1 Tryz.underlying22 hi hz0 hz1 hz2 rfl (by decide) _ 1 [.int .u8 (48 + k.tmod 10)] (by rfl) HOn.out ⟨g, 0, none⟩ m c (Lib.byteCells bs) (by rfl) (by rw [Lib.byteCells_length, HBL.out, Nat.mul_one]) (fun j u hu => by rw [addr_zero]; exact (HO2.out.cellAt j (by have := (List.getElem?_eq_some_iff.1 hu).1; rw [Lib.byteCells_length, HBL.out] at this; omega)).trans hu) (Lib.byteCells_one bs) (by show 1 + m ≤ 9223372036854775807; omega) (by omega) (by simp; omega) ?_; intro v' wn hown hgrow hnil hat; obtain ⟨g', cap1, rfl, hg', hlt⟩ := hown.form (by omega))
        have hcell : Value.int .u8 (48 + k.tmod 10) = .int .u8 ((UInt8.ofNat (48 + (k.tmod 10).natAbs)).toNat : Nat) := by rw [u8_dig _ (by omega)]; congr 1; omega
        go_roundw
        case rel =>
          refine ⟨k.tdiv 10, 1 + m, cap1, g', UInt8.ofNat (48 + (k.tmod 10).natAbs) :: bs, rfl, rfl, by have := B3.out; omega, by have := B3.out; omega, ?_, HE'.out, ?_⟩
          · have h := hown
            rw [hcell] at h
            exact h
          · exact (HB.out.alloc hwr _).grown hgrow (by simp; omega) (fun k hk => by simp [Value.ownBlock] at hk; omega)
        case measure => show (k.tdiv 10).natAbs < k.natAbs; exact B3.out
end Go.Proofs.YtlpglibnjmjjkaaGreatDoor
namespace Go.Proofs.YtlpglibnjmjjkaaGreatDoor
open Go.RowKit
set_option linter.unusedVariables false
set_option linter.unusedSimpArgs false
attribute [local go_sem ↓] Go.wp_at_zero Go.wp_at_succ

theorem var_below {w w' : World} {n : String} {cs : Array Value} (h : w.var? Tryz.prog n = some cs) (hb : Below w.heap.size w w') : w'.var? Tryz.prog n = some cs := by
  unfold World.var? at *
  cases hg : (Tryz.prog).globalNamed n with
  | none => simp [hg] at h
  | some g =>
    simp only [hg, Option.bind_some] at h ⊢
    have hlt : g < w.heap.size := by
      rcases Nat.lt_or_ge g w.heap.size with h' | h'
      · exact h'
      · rw [Array.getElem?_eq_none h'] at h; cases h
    rw [hb.block g hlt]
    exact h
/-- The two errors hold values of interfaces. -/
def Er (w : World) : Prop := (∃ tp p, w.var? Tryz.prog "strconv.ErrSyntax" = some #[.iface tp p]) ∧ (∃ tp p, w.var? Tryz.prog "strconv.ErrRange" = some #[.iface tp p])
theorem Er.below {w w' : World} (h : Er w) (hb : Below w.heap.size w w') : Er w' := by
  obtain ⟨⟨t1, p1, h1⟩, ⟨t2, p2, h2⟩⟩ := h
  exact ⟨⟨t1, p1, var_below h1 hb⟩, ⟨t2, p2, var_below h2 hb⟩⟩
theorem below_bytes (w : World) (t : ByteArray) : Below w.heap.size w (Lib.bytesWorld w 5 t) :=
  ⟨rfl, rfl, rfl, by rw [Lib.bytesWorld_size]; omega, fun j hj => Lib.bytesWorld_at_old w _ t j hj⟩
/-- What is read from a text. -/
def rdT (s : ByteArray) : Int × Bool := if rdB s.data.toList = true then (valI s.data.toList, true) else (0, false)
theorem rdT_t {s : ByteArray} (h : rdB s.data.toList = true) : rdT s = (valI s.data.toList, true) := if_pos h
theorem rdT_f {s : ByteArray} (h : rdB s.data.toList = false) : rdT s = (0, false) := if_neg (by rw [h]; decide)
theorem rdT_bd (s : ByteArray) : -1000000000000000000 ≤ (rdT s).1 ∧ (rdT s).1 ≤ 1000000000000000000 := by
  unfold rdT
  split
  · rename_i h
    have := (rdB_form h).2.2.2.2
    simp only; omega
  · simp
theorem tm_trim (l : List UInt8) : Lib.trimPrefix l [45] = tmL l := by
  cases l with
  | nil => rfl
  | cons c r =>
    unfold tmL Lib.trimPrefix Lib.hasPrefix
    by_cases h : c.toNat = 45
    · have hc : c = 45 := UInt8.toNat_inj.1 h
      subst hc
      simp
    · have hc : ¬ (45 : UInt8) = c := fun e => h (by rw [← e]; decide)
      simp [h, hc]
theorem ret_ib {a b : Int} {c d : Bool} (h : a = b) (h' : c = d) : Ending.returned (.tuple #[.int .i64 a, .bool c]) = .returned (.tuple #[.int .i64 b, .bool d]) := by rw [h, h']
theorem decS_eq {n : Int} {s : ByteArray} : decS n = s ↔ Lib.itoa n = s.data.toList := by
  constructor
  · intro h; rw [← h, decS_data]
  · intro h; exact str_ext (by rw [decS_data, h])
theorem tl_t {a b : ByteArray} (h : a = b) : (a.toList == b.toList) = true := by rw [h]; exact beq_self_eq_true _
theorem tl_f {a b : ByteArray} (h : a ≠ b) : (a.toList == b.toList) = false := by
  rw [ByteArray.toList_eq, ByteArray.toList_eq]
  exact beq_eq_false_iff_ne.2 (fun e => h (str_ext e))
set_option maxRecDepth 100000 in
set_option maxHeartbeats 1600000 in
theorem readDecimal_any (s : ByteArray) (w : World) (hs : s.size ≤ 1048576) (hd : Dr w) (he : Er w) :
    Calls Tryz.prog 69 #[.string s] w fun e w' => e = .returned (.tuple #[.int .i64 (rdT s).1, .bool (rdT s).2]) ∧ Below w.heap.size w w' := by
  have HT := Lib.hid (Tryz.strings_TrimPrefix s ⟨#[45]⟩ w)
  rw [show (⟨#[45]⟩ : ByteArray).data.toList = [45] from rfl, tm_trim] at HT
  obtain ⟨⟨t1, p1, e1⟩, ⟨t2, p2, e2⟩⟩ := he
  have HP := Lib.hid (fun v h => Tryz.strconv_ParseInt_10_at64_ok s (by omega) v h w)
  have HS := Lib.hid (fun h1 h2 => Tryz.strconv_ParseInt_10_at64_bad_var s (by omega) h1 h2 t1 p1 w e1)
  have HR := Lib.hid (fun h => Tryz.strconv_ParseInt_10_at64_range_var s (by omega) h t2 p2 w e2)
  have HD := Lib.hid hd
  clear hd e1 e2
  by_cases hl : (tmL s.data.toList).length ≤ 18
  · have hl' : ¬ 18 < (tmL s.data.toList).length := by omega
    cases hp : Lib.parseIntB 64 s.data.toList with
    | ok v =>
      have hvb := Lib.parseIntB_bounds hp
      have hv1 : -9223372036854775808 ≤ v := by have := hvb.1; have e : ((2 ^ (64 - 1) : Nat) : Int) = 9223372036854775808 := by decide
                                                omega
      have hv2 : v ≤ 9223372036854775807 := by have := hvb.2; have e : ((2 ^ (64 - 1) : Nat) : Int) = 9223372036854775808 := by decide
                                               omega
      have HP' := Lib.hid (HP.out v hp)
      have hX : (decS v = s ∧ rdT s = (v, true)) ∨ (decS v ≠ s ∧ rdT s = (0, false)) := by
        by_cases hq : Lib.itoa v = s.data.toList
        · left
          have hval : valI s.data.toList = v := by rw [← hq, val_itoa]
          refine ⟨decS_eq.2 hq, ?_⟩
          rw [rdT_t (rdB_iff.2 ⟨hl, by rw [hval, hq]⟩), hval]
        · right
          refine ⟨fun e => hq (decS_eq.1 e), rdT_f ?_⟩
          cases hb : rdB s.data.toList
          · rfl
          · exfalso
            have := rd_ok hb
            rw [hp] at this
            injection this with this
            exact hq (by rw [this]; exact (rdB_iff.1 hb).2)
      clear HP HS HR hp hl hvb
      rcases hX with ⟨hq, hX⟩ | ⟨hq, hX⟩
      · rw [hX]
        have htl := tl_t hq
        clear hX hq
        go_enter Tryz.func69, Tryz.ntmps69
        go_wp2_with fail
        refine HT.out.mono ?_
        rintro e w' ⟨rfl, hw0⟩
        obtain rfl := hw0.symm
        go_wp2_with fail
        refine HP'.out.mono ?_
        rintro e w1 ⟨rfl, hw⟩
        have hb1 : Below w.heap.size w w1 := by
          rcases hw with rfl | ⟨t, rfl⟩
          · exact Below.refl _ _
          · exact below_bytes w t
        have HB1 := Lib.hid hb1
        clear hw hb1
        go_wp2_with fail
        refine (decimal_any v w1 hv1 hv2 (HD.out.below HB1.out)).mono ?_
        rintro e w2 ⟨rfl, hb2⟩
        have hB := HB1.out.trans (hb2.mono HB1.out.size)
        clear hb2
        go_wp2_with fail
        go_ret2
        exact ⟨rfl, hB⟩
      · rw [hX]
        have htl := tl_f hq
        clear hX hq
        go_enter Tryz.func69, Tryz.ntmps69
        go_wp2_with fail
        refine HT.out.mono ?_
        rintro e w' ⟨rfl, hw0⟩
        obtain rfl := hw0.symm
        go_wp2_with fail
        refine HP'.out.mono ?_
        rintro e w1 ⟨rfl, hw⟩
        have hb1 : Below w.heap.size w w1 := by
          rcases hw with rfl | ⟨t, rfl⟩
          · exact Below.refl _ _
          · exact below_bytes w t
        have HB1 := Lib.hid hb1
        clear hw hb1
        go_wp2_with fail
        refine (decimal_any v w1 hv1 hv2 (HD.out.below HB1.out)).mono ?_
        rintro e w2 ⟨rfl, hb2⟩
        have hB := HB1.out.trans (hb2.mono HB1.out.size)
        clear hb2
        go_wp2_with fail
        go_ret2
        exact ⟨rfl, hB⟩
    | range =>
      have HS' := Lib.hid (HR.out hp)
      have hX : rdT s = (0, false) := rdT_f (by
        cases hb : rdB s.data.toList
        · rfl
        · have := rd_ok hb
          rw [hp] at this
          cases this)
      rw [hX]
      clear HP HS HR hp hl hX
      go_enter Tryz.func69, Tryz.ntmps69
      go_wp2_with fail
      refine HT.out.mono ?_
      rintro e w' ⟨rfl, hw0⟩
      obtain rfl := hw0.symm
      go_wp2_with fail
      refine HS'.out.mono ?_
      rintro e w1 ⟨N, rfl, hN, _, hb⟩
      have HB := Lib.hid hb
      clear hb hN
      go_wp2_with fail
      go_ret2
      exact ⟨rfl, HB.out⟩
    | _ =>
      have HS' := Lib.hid (HS.out (fun v e => by rw [hp] at e; cases e) (fun e => by rw [hp] at e; cases e))
      have hX : rdT s = (0, false) := rdT_f (by
        cases hb : rdB s.data.toList
        · rfl
        · have := rd_ok hb
          rw [hp] at this
          cases this)
      rw [hX]
      clear HP HS HR hp hl hX
      go_enter Tryz.func69, Tryz.ntmps69
      go_wp2_with fail
      refine HT.out.mono ?_
      rintro e w' ⟨rfl, hw0⟩
      obtain rfl := hw0.symm
      go_wp2_with fail
      refine HS'.out.mono ?_
      rintro e w1 ⟨N, rfl, hN, _, hb⟩
      have HB := Lib.hid hb
      clear hb hN
      go_wp2_with fail
      go_ret2
      exact ⟨rfl, HB.out⟩
  · have hl' : 18 < (tmL s.data.toList).length := by omega
    rw [rdT_f (by unfold rdB; exact decide_eq_false (fun h => hl h.1))]
    clear HP HS HR hl
    go_enter Tryz.func69, Tryz.ntmps69
    go_wp2_with fail
    refine HT.out.mono ?_
    rintro e w' ⟨rfl, hw0⟩
    obtain rfl := hw0.symm
    go_wp2_with fail
    go_ret2
    exact ⟨rfl, Below.refl _ _⟩
end Go.Proofs.YtlpglibnjmjjkaaGreatDoor
namespace Go.Proofs.YtlpglibnjmjjkaaGreatDoor
open Go.RowKit
set_option linter.unusedVariables false
set_option maxRecDepth 100000
theorem errStar : "*" ++ "errors.errorString" = "*errors.errorString" := by decide
theorem errRow (u : TypeId) (h : (Tryz.prog).typeName? 3 u = some "*errors.errorString") : u = 173 :=
  typeName_ptr_named (nm := "errors.errorString") (by rw [errStar]; kernel_rfl) (by kernel_rfl) (by decide) u (by rw [errStar]; exact h)
theorem errCells : (Tryz.prog).cellsOf 175 = 1 := by kernel_rfl
theorem strCellsOf : (Tryz.prog).cellsOf 9 = 1 := by kernel_rfl
theorem er_of {n : String} {text : List UInt8} {r : List (String × DataW Unit)} {W : World} {g : Nat} (hg : (Tryz.prog).globalNamed n = some g) (ht : ((Tryz.prog).globals[g]?).map (·.type) = some 113)
    (h : laidMet Tryz.prog ((n, .iface "*errors.errorString" (.ptr (.agg [.lit (.string text)]))) :: r) W) : ∃ tp p, W.var? Tryz.prog n = some #[.iface tp p] := by
  obtain ⟨a, s, hv, _⟩ := laid_sentinel h hg ht Tryz.underlying113 errRow Tryz.underlying173 Tryz.underlying175 rfl rfl Tryz.underlying9 errCells strCellsOf
  exact ⟨_, _, hv⟩
end Go.Proofs.YtlpglibnjmjjkaaGreatDoor
