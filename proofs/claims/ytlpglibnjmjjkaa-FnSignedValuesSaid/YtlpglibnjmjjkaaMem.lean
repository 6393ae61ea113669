/-
  Words for memory and small lemmas on them, over any program: a slice that reads as a list of integers or of pairs; how such readings are kept.
  No condition.
-/
import Derived.WalkKit
import Derived.ProofKit
import Derived.OpenShut
import Derived.Below
import Derived.Deep.Slices
import Derived.Lib.SmallJoins
import Derived.Lib.Hide
namespace Go.Proofs.Ytlpglibnjmjjkaa
open Go.ChangeShapes Go.WideShapes Go.ChangeAt Go.RowKit Go.Joins Go.Deep
set_option linter.unusedVariables false

theorem i64_bd {n : Int} (h : (Lit.int .i64 n).wf = true) : -9223372036854775808 ≤ n ∧ n ≤ 9223372036854775807 := bounds_i64 h
theorem str_bd {s : ByteArray} (h : s.size ≤ maxLen) : s.size ≤ 9223372036854775807 := h
def Rng (z : Int) : Prop := -9223372036854775808 ≤ z ∧ z ≤ 9223372036854775807

theorem ret_int {k : IntKind} {a b : Int} (h : a = b) : Ending.returned (.int k a) = .returned (.int k b) := by rw [h]
theorem ret_bool {a b : Bool} (h : a = b) : Ending.returned (.bool a) = .returned (.bool b) := by rw [h]
theorem ret_str {a b : ByteArray} (h : a = b) : Ending.returned (.string a) = .returned (.string b) := by rw [h]
theorem ret_int2 {k j : IntKind} {a b c d : Int} (h : a = b) (h' : c = d) : Ending.returned (.tuple #[.int k a, .int j c]) = .returned (.tuple #[.int k b, .int j d]) := by rw [h, h']
theorem mul_bd {x y : Int} (h1 : -1000000000 ≤ x) (h2 : x ≤ 1000000000) (h3 : -1000000000 ≤ y) (h4 : y ≤ 1000000000) : -1000000000000000000 ≤ x * y ∧ x * y ≤ 1000000000000000000 := by
  have h : (x * y).natAbs ≤ 1000000000 * 1000000000 := by rw [Int.natAbs_mul]; exact Nat.mul_le_mul (by omega) (by omega)
  omega
theorem addr_block (a : Addr) (n : Nat) : (a.add n).block = a.block := by unfold Addr.add; split <;> rfl
theorem addr_add (a : Addr) (i j : Nat) : (a.add i).add j = a.add (i + j) := by
  unfold Addr.add
  by_cases hi : i = 0 <;> by_cases hj : j = 0 <;> simp [hi, hj, Nat.add_assoc]
theorem addr_nil (a : Addr) : a.add 0 = a := by unfold Addr.add; simp
theorem addr_zero (g n : Nat) : (⟨g, 0, none⟩ : Addr).add n = ⟨g, n, none⟩ := by unfold Addr.add; split <;> simp_all
theorem addr_off (g o n : Nat) : (⟨g, o, none⟩ : Addr).add n = ⟨g, o + n, none⟩ := by unfold Addr.add; split <;> simp_all

/-- What a contract's end says of the cells that were there, as rules for the walk. -/
theorem keepc {W w1 : World} (h : Below W.heap.size W w1) : (∀ b o, b < W.heap.size → w1.cell? ⟨b, o, none⟩ = W.cell? ⟨b, o, none⟩) ∧ (∀ b o, b < W.heap.size → w1.frozen? ⟨b, o, none⟩ = W.frozen? ⟨b, o, none⟩) ∧ W.heap.size ≤ w1.heap.size :=
  ⟨fun b o hb => h.cell (p := ⟨b, o, none⟩) hb, fun b o hb => h.frozen (p := ⟨b, o, none⟩) hb, h.size⟩

section
variable {w W w1 : World} {p q r s : Int}
/-- Two boxes of two integers lie above the world w, in two new blocks: kept by whatever turns nothing that was there. -/
theorem two_keep (c1 : W.cell? ⟨w.heap.size, 0, none⟩ = some (.int .i64 p)) (c2 : W.cell? ⟨w.heap.size, 1, none⟩ = some (.int .i64 q)) (c3 : W.cell? ⟨w.heap.size + 1, 0, none⟩ = some (.int .i64 r)) (c4 : W.cell? ⟨w.heap.size + 1, 1, none⟩ = some (.int .i64 s))
    (hB : Below w.heap.size w W) (hs : w.heap.size + 1 < W.heap.size) (hb : Below W.heap.size W w1) :
    w1.cell? ⟨w.heap.size, 0, none⟩ = some (.int .i64 p) ∧ w1.cell? ⟨w.heap.size, 1, none⟩ = some (.int .i64 q) ∧ w1.cell? ⟨w.heap.size + 1, 0, none⟩ = some (.int .i64 r) ∧ w1.cell? ⟨w.heap.size + 1, 1, none⟩ = some (.int .i64 s) ∧
      Below w.heap.size w w1 ∧ w.heap.size + 1 < w1.heap.size :=
  ⟨(hb.cell (p := ⟨w.heap.size, 0, none⟩) (by simp; omega)).trans c1, (hb.cell (p := ⟨w.heap.size, 1, none⟩) (by simp; omega)).trans c2, (hb.cell (p := ⟨w.heap.size + 1, 0, none⟩) (by simp; omega)).trans c3,
    (hb.cell (p := ⟨w.heap.size + 1, 1, none⟩) (by simp; omega)).trans c4, hB.trans (hb.mono (by omega)), by have := hb.size; omega⟩
theorem two_drew (h : W.cell? ⟨w.heap.size, 0, none⟩ = some (.int .i64 p) ∧ W.cell? ⟨w.heap.size, 1, none⟩ = some (.int .i64 q) ∧ W.cell? ⟨w.heap.size + 1, 0, none⟩ = some (.int .i64 r) ∧ W.cell? ⟨w.heap.size + 1, 1, none⟩ = some (.int .i64 s) ∧
      Below w.heap.size w W ∧ w.heap.size + 1 < W.heap.size) :
    W.drew.cell? ⟨w.heap.size, 0, none⟩ = some (.int .i64 p) ∧ W.drew.cell? ⟨w.heap.size, 1, none⟩ = some (.int .i64 q) ∧ W.drew.cell? ⟨w.heap.size + 1, 0, none⟩ = some (.int .i64 r) ∧ W.drew.cell? ⟨w.heap.size + 1, 1, none⟩ = some (.int .i64 s) ∧
      Below w.heap.size w W.drew ∧ w.heap.size + 1 < W.drew.heap.size := ⟨h.1, h.2.1, h.2.2.1, h.2.2.2.1, h.2.2.2.2.1.drew, h.2.2.2.2.2⟩
theorem two_keep' (h : W.cell? ⟨w.heap.size, 0, none⟩ = some (.int .i64 p) ∧ W.cell? ⟨w.heap.size, 1, none⟩ = some (.int .i64 q) ∧ W.cell? ⟨w.heap.size + 1, 0, none⟩ = some (.int .i64 r) ∧ W.cell? ⟨w.heap.size + 1, 1, none⟩ = some (.int .i64 s) ∧
      Below w.heap.size w W ∧ w.heap.size + 1 < W.heap.size) (hb : Below W.heap.size W w1) :
    w1.cell? ⟨w.heap.size, 0, none⟩ = some (.int .i64 p) ∧ w1.cell? ⟨w.heap.size, 1, none⟩ = some (.int .i64 q) ∧ w1.cell? ⟨w.heap.size + 1, 0, none⟩ = some (.int .i64 r) ∧ w1.cell? ⟨w.heap.size + 1, 1, none⟩ = some (.int .i64 s) ∧
      Below w.heap.size w w1 ∧ w.heap.size + 1 < w1.heap.size := two_keep h.1 h.2.1 h.2.2.1 h.2.2.2.1 h.2.2.2.2.1 h.2.2.2.2.2 hb
theorem two_below (h : W.cell? ⟨w.heap.size, 0, none⟩ = some (.int .i64 p) ∧ W.cell? ⟨w.heap.size, 1, none⟩ = some (.int .i64 q) ∧ W.cell? ⟨w.heap.size + 1, 0, none⟩ = some (.int .i64 r) ∧ W.cell? ⟨w.heap.size + 1, 1, none⟩ = some (.int .i64 s) ∧
      Below w.heap.size w W ∧ w.heap.size + 1 < W.heap.size) : Below w.heap.size w W := h.2.2.2.2.1
theorem two_alloc (h : W.cell? ⟨w.heap.size, 0, none⟩ = some (.int .i64 p) ∧ W.cell? ⟨w.heap.size, 1, none⟩ = some (.int .i64 q) ∧ W.cell? ⟨w.heap.size + 1, 0, none⟩ = some (.int .i64 r) ∧ W.cell? ⟨w.heap.size + 1, 1, none⟩ = some (.int .i64 s) ∧
      Below w.heap.size w W ∧ w.heap.size + 1 < W.heap.size) (o : Obj) :
    (W.alloc o).cell? ⟨w.heap.size, 0, none⟩ = some (.int .i64 p) ∧ (W.alloc o).cell? ⟨w.heap.size, 1, none⟩ = some (.int .i64 q) ∧ (W.alloc o).cell? ⟨w.heap.size + 1, 0, none⟩ = some (.int .i64 r) ∧ (W.alloc o).cell? ⟨w.heap.size + 1, 1, none⟩ = some (.int .i64 s) ∧
      Below w.heap.size w (W.alloc o) ∧ w.heap.size + 1 < (W.alloc o).heap.size := two_keep' h ((Below.refl _ _).alloc (Nat.le_refl _) _)
theorem two_set2 (h : W.cell? ⟨w.heap.size, 0, none⟩ = some (.int .i64 p) ∧ W.cell? ⟨w.heap.size, 1, none⟩ = some (.int .i64 q) ∧ W.cell? ⟨w.heap.size + 1, 0, none⟩ = some (.int .i64 r) ∧ W.cell? ⟨w.heap.size + 1, 1, none⟩ = some (.int .i64 s) ∧
      Below w.heap.size w W ∧ w.heap.size + 1 < W.heap.size) {g : Nat} (hg : w.heap.size + 1 < g) (u v : Value) :
    ((W.setCell ⟨g, 0, none⟩ u).setCell ⟨g, 1, none⟩ v).cell? ⟨w.heap.size, 0, none⟩ = some (.int .i64 p) ∧ ((W.setCell ⟨g, 0, none⟩ u).setCell ⟨g, 1, none⟩ v).cell? ⟨w.heap.size, 1, none⟩ = some (.int .i64 q) ∧
      ((W.setCell ⟨g, 0, none⟩ u).setCell ⟨g, 1, none⟩ v).cell? ⟨w.heap.size + 1, 0, none⟩ = some (.int .i64 r) ∧ ((W.setCell ⟨g, 0, none⟩ u).setCell ⟨g, 1, none⟩ v).cell? ⟨w.heap.size + 1, 1, none⟩ = some (.int .i64 s) ∧
      Below w.heap.size w ((W.setCell ⟨g, 0, none⟩ u).setCell ⟨g, 1, none⟩ v) ∧ w.heap.size + 1 < ((W.setCell ⟨g, 0, none⟩ u).setCell ⟨g, 1, none⟩ v).heap.size := by
  obtain ⟨h1, h2, h3, h4, h5, h6⟩ := h
  have k : ∀ a : Addr, a.block ≤ w.heap.size + 1 → ((W.setCell ⟨g, 0, none⟩ u).setCell ⟨g, 1, none⟩ v).cell? a = W.cell? a := fun a ha =>
    (World.cell?_setCell_other _ _ _ _ (fun e => by rw [← e] at ha; simp at ha; omega)).trans (World.cell?_setCell_other _ _ _ _ (fun e => by rw [← e] at ha; simp at ha; omega))
  exact ⟨(k _ (by simp)).trans h1, (k _ (by simp)).trans h2, (k _ (by simp)).trans h3, (k _ (by simp)).trans h4, (h5.setCell (by simp; omega) _).setCell (by simp; omega) _, by simpa using h6⟩
theorem two_start (w : World) (p q r s : Int) (t u : TypeId) :
    let W := (w.alloc (.cells #[.int .i64 p, .int .i64 q] t)).alloc (.cells #[.int .i64 r, .int .i64 s] u)
    W.cell? ⟨w.heap.size, 0, none⟩ = some (.int .i64 p) ∧ W.cell? ⟨w.heap.size, 1, none⟩ = some (.int .i64 q) ∧ W.cell? ⟨w.heap.size + 1, 0, none⟩ = some (.int .i64 r) ∧ W.cell? ⟨w.heap.size + 1, 1, none⟩ = some (.int .i64 s) ∧
      Below w.heap.size w W ∧ w.heap.size + 1 < W.heap.size := by
  intro W
  refine ⟨?_, ?_, ?_, ?_, ((Below.refl _ _).alloc (Nat.le_refl _) _).alloc (by simp) _, by simp [W]⟩ <;> simp [W, go_sem]
end

theorem pair_set {w2 : World} {g : Nat} {x y : Value} (h0 : w2.cell? ⟨g, 0, none⟩ = some x) (h1 : w2.cell? ⟨g, 1, none⟩ = some y) (u v : Value) :
    (w2.setCell ⟨g, 0, none⟩ u).cell? ⟨g, 0, none⟩ = some u ∧ ((w2.setCell ⟨g, 0, none⟩ u).setCell ⟨g, 1, none⟩ v).cell? ⟨g, 0, none⟩ = some u ∧ ((w2.setCell ⟨g, 0, none⟩ u).setCell ⟨g, 1, none⟩ v).cell? ⟨g, 1, none⟩ = some v := by
  have e0 : (w2.setCell ⟨g, 0, none⟩ u).cell? ⟨g, 0, none⟩ = some u := World.cell?_setCell_same' _ _ _ (by rw [h0]; rfl)
  have e1 : (w2.setCell ⟨g, 0, none⟩ u).cell? ⟨g, 1, none⟩ = some y := (World.cell?_setCell_other _ _ _ _ (by simp)).trans h1
  exact ⟨e0, (World.cell?_setCell_other _ _ _ _ (by simp)).trans e0, World.cell?_setCell_same' _ _ _ (by rw [e1]; rfl)⟩

/-- From A on lie the cells xs. -/
def Rd (w : World) (A : Option Addr) (xs : List Value) : Prop := ∀ j u, xs[j]? = some u → ∃ ad, A = some ad ∧ w.cell? (ad.add j) = some u

section
variable {w w' : World} {A : Option Addr} {xs : List Value}
theorem Rd.nil : Rd w A [] := fun j u h => by simp at h
theorem Rd.keep (h : Rd w A xs) (hk : ∀ p u, w.cell? p = some u → (∃ ad, A = some ad ∧ p.block = ad.block) → w'.cell? p = some u) : Rd w' A xs := fun j u hu => by
  obtain ⟨ad, e, hc⟩ := h j u hu
  exact ⟨ad, e, hk _ _ hc ⟨ad, e, addr_block _ _⟩⟩
theorem Rd.below (h : Rd w A xs) (hb : Below w.heap.size w w') : Rd w' A xs := h.keep fun p u hu _ => (hb.cell (World.block_lt_of_cell? w p hu)).trans hu
theorem Rd.belowB {B : Nat} (h : Rd w A xs) (hb : Below B w w') (hA : ∀ ad, A = some ad → ad.block < B) : Rd w' A xs := h.keep fun p u hu ⟨ad, e, hp⟩ => (hb.cell (by rw [hp]; exact hA ad e)).trans hu
theorem Rd.alloc (h : Rd w A xs) (o : Obj) : Rd (w.alloc o) A xs := h.keep fun p u hu _ => (World.cell?_alloc_lt w o p (World.block_lt_of_cell? w p hu)).trans hu
theorem Rd.drew (h : Rd w A xs) : Rd w.drew A xs := h
theorem Rd.set_ (h : Rd w A xs) {p : Addr} (u : Value) (hp : ∀ ad, A = some ad → ad.block ≠ p.block) : Rd (w.setCell p u) A xs :=
  h.keep fun q v hv ⟨ad, e, hq⟩ => (World.cell?_setCell_other w p q u (fun e' => hp ad e (by rw [← hq, e']))).trans hv
theorem Rd.grown (h : Rd w A xs) {row : Option Nat} (hg : w.grownBy w' row) (hr : ∀ ad, A = some ad → some ad.block ≠ row) : Rd w' A xs :=
  h.keep fun p u hu ⟨ad, e, hp⟩ => hg.cell hu (by rw [hp]; exact hr ad e)
theorem Rd.of_own {base e size n c : Nat} (h : w.ownsRow base e size (.slice A n c) n xs) : Rd w A xs := fun j u hu => by
  rcases h.2 with ⟨h1, h2⟩ | ⟨g, cap, cur, hv, _⟩
  · have : xs = [] := List.eq_nil_of_length_eq_zero (by rw [h.1, h2]; omega)
    subst this; simp at hu
  · injection hv with hA
    subst hA
    exact ⟨_, rfl, h.cells (g := g) rfl j u hu⟩
theorem Rd.drop_ (h : Rd w A xs) (k : Nat) : Rd w (A.map (·.add k)) (xs.drop k) := fun j u hu => by
  rw [List.getElem?_drop] at hu
  obtain ⟨ad, rfl, hc⟩ := h _ u hu
  exact ⟨_, rfl, by rw [addr_add]; exact hc⟩
theorem Rd.take_ (h : Rd w A xs) (k : Nat) : Rd w A (xs.take k) := fun j u hu => by
  rw [List.getElem?_take] at hu
  split at hu
  · exact h j u hu
  · cases hu
end

/-- A slice of n int64: its numbers are zs. -/
def IRow (w : World) (A : Option Addr) (n : Nat) (zs : List Int) : Prop :=
  zs.length = n ∧ n ≤ 9223372036854775807 ∧ (∀ z ∈ zs, Rng z) ∧ Rd w A (zs.map (Value.int .i64))

section
variable {w w' : World} {A : Option Addr} {n : Nat} {zs : List Int}
theorem IRow.len (h : IRow w A n zs) : zs.length = n := h.1
theorem IRow.bd (h : IRow w A n zs) : n ≤ 9223372036854775807 := h.2.1
theorem IRow.at_ {k : Nat} (h : IRow w A n zs) (hk : k < n) : ∃ ad z, A = some ad ∧ zs[k]? = some z ∧ -9223372036854775808 ≤ z ∧ z ≤ 9223372036854775807 ∧ w.cell? (ad.add k) = some (.int .i64 z) := by
  have hl : k < zs.length := by rw [h.1]; exact hk
  have hz : zs[k]? = some zs[k] := List.getElem?_eq_getElem hl
  obtain ⟨ad, e, hc⟩ := h.2.2.2 k (.int .i64 zs[k]) (by simp [hz])
  have hr := h.2.2.1 _ (List.getElem_mem hl)
  exact ⟨ad, _, e, hz, hr.1, hr.2, hc⟩
theorem IRow.below (h : IRow w A n zs) (hb : Below w.heap.size w w') : IRow w' A n zs := ⟨h.1, h.2.1, h.2.2.1, h.2.2.2.below hb⟩
theorem IRow.alloc (h : IRow w A n zs) (o : Obj) : IRow (w.alloc o) A n zs := ⟨h.1, h.2.1, h.2.2.1, h.2.2.2.alloc o⟩
theorem IRow.drew (h : IRow w A n zs) : IRow w.drew A n zs := h
theorem IRow.set_ (h : IRow w A n zs) {p : Addr} (u : Value) (hp : ∀ ad, A = some ad → ad.block ≠ p.block) : IRow (w.setCell p u) A n zs := ⟨h.1, h.2.1, h.2.2.1, h.2.2.2.set_ u hp⟩
theorem IRow.grown (h : IRow w A n zs) {row : Option Nat} (hg : w.grownBy w' row) (hr : ∀ ad, A = some ad → some ad.block ≠ row) : IRow w' A n zs := ⟨h.1, h.2.1, h.2.2.1, h.2.2.2.grown hg hr⟩
theorem IRow.of_own {base e c : Nat} (h : w.ownsRow base e 1 (.slice A n c) n (zs.map (Value.int .i64))) (hn : n ≤ 9223372036854775807) (hr : ∀ z ∈ zs, Rng z) : IRow w A n zs :=
  ⟨by have := h.1; simpa using this, hn, hr, Rd.of_own h⟩
end

/-- The cells of a list of pairs. -/
def prs : List (Int × Int) → List Value
  | [] => []
  | p :: r => .int .i64 p.1 :: .int .i64 p.2 :: prs r
theorem prs_length : ∀ zs : List (Int × Int), (prs zs).length = zs.length * 2
  | [] => rfl
  | p :: r => by simp [prs, prs_length r]; omega
theorem prs_append : ∀ a b : List (Int × Int), prs (a ++ b) = prs a ++ prs b
  | [], b => rfl
  | p :: r, b => by simp [prs, prs_append r b]
theorem prs_get1 : ∀ (zs : List (Int × Int)) (k : Nat) (p : Int × Int), zs[k]? = some p → (prs zs)[k * 2]? = some (.int .i64 p.1)
  | [], k, p, h => by simp at h
  | q :: r, 0, p, h => by simp at h; subst h; rfl
  | q :: r, k + 1, p, h => by
    have := prs_get1 r k p (by simpa using h)
    rw [show (k + 1) * 2 = (k * 2) + 1 + 1 from by omega]
    simpa [prs] using this
theorem prs_get2 : ∀ (zs : List (Int × Int)) (k : Nat) (p : Int × Int), zs[k]? = some p → (prs zs)[k * 2 + 1]? = some (.int .i64 p.2)
  | [], k, p, h => by simp at h
  | q :: r, 0, p, h => by simp at h; subst h; rfl
  | q :: r, k + 1, p, h => by
    have := prs_get2 r k p (by simpa using h)
    rw [show (k + 1) * 2 + 1 = (k * 2 + 1) + 1 + 1 from by omega]
    simpa [prs] using this
theorem prs_one (zs : List (Int × Int)) : ∀ u ∈ prs zs, u.oneCell' = true := by
  induction zs with
  | nil => intro u hu; simp [prs] at hu
  | cons p r ih =>
    intro u hu
    simp only [prs, List.mem_cons] at hu
    rcases hu with rfl | rfl | hu
    · rfl
    · rfl
    · exact ih u hu

/-- A slice of n pairs of int64. -/
def PRow (w : World) (A : Option Addr) (n : Nat) (zs : List (Int × Int)) : Prop :=
  zs.length = n ∧ n ≤ 9223372036854775807 ∧ (∀ z ∈ zs, Rng z.1 ∧ Rng z.2) ∧ Rd w A (prs zs)

section
variable {w w' : World} {A : Option Addr} {n : Nat} {zs : List (Int × Int)}
theorem PRow.len (h : PRow w A n zs) : zs.length = n := h.1
theorem PRow.bd (h : PRow w A n zs) : n ≤ 9223372036854775807 := h.2.1
theorem PRow.at_ {k : Nat} (h : PRow w A n zs) (hk : k < n) : ∃ b o x y, A = some ⟨b, o, none⟩ ∧ zs[k]? = some (x, y) ∧ -9223372036854775808 ≤ x ∧ x ≤ 9223372036854775807 ∧ -9223372036854775808 ≤ y ∧ y ≤ 9223372036854775807 ∧
    w.cell? ⟨b, o + k * 2, none⟩ = some (.int .i64 x) ∧ w.cell? ⟨b, o + k * 2 + 1, none⟩ = some (.int .i64 y) := by
  have hl : k < zs.length := by rw [h.1]; exact hk
  have hz : zs[k]? = some zs[k] := List.getElem?_eq_getElem hl
  obtain ⟨ad, e, hc⟩ := h.2.2.2 (k * 2) _ (prs_get1 zs k _ hz)
  obtain ⟨ad', e', hc'⟩ := h.2.2.2 (k * 2 + 1) _ (prs_get2 zs k _ hz)
  rw [e] at e'; injection e' with e'; subst e'
  have h0 : 0 < zs.length := by omega
  obtain ⟨ad0, e0, hc0⟩ := h.2.2.2 0 _ (by have := prs_get1 zs 0 zs[0] (List.getElem?_eq_getElem h0); simpa using this)
  rw [e] at e0; injection e0 with e0; subst e0
  rw [addr_nil] at hc0
  obtain ⟨b, o, s⟩ := ad
  have hs : s = none := by simpa using World.cell?_spot hc0
  subst hs
  rw [addr_off] at hc hc'
  have hr := h.2.2.1 _ (List.getElem_mem hl)
  exact ⟨b, o, _, _, e, hz, hr.1.1, hr.1.2, hr.2.1, hr.2.2, hc, hc'⟩
theorem PRow.below (h : PRow w A n zs) (hb : Below w.heap.size w w') : PRow w' A n zs := ⟨h.1, h.2.1, h.2.2.1, h.2.2.2.below hb⟩
theorem PRow.alloc (h : PRow w A n zs) (o : Obj) : PRow (w.alloc o) A n zs := ⟨h.1, h.2.1, h.2.2.1, h.2.2.2.alloc o⟩
theorem PRow.drew (h : PRow w A n zs) : PRow w.drew A n zs := h
theorem PRow.set_ (h : PRow w A n zs) {p : Addr} (u : Value) (hp : ∀ ad, A = some ad → ad.block ≠ p.block) : PRow (w.setCell p u) A n zs := ⟨h.1, h.2.1, h.2.2.1, h.2.2.2.set_ u hp⟩
theorem PRow.grown (h : PRow w A n zs) {row : Option Nat} (hg : w.grownBy w' row) (hr : ∀ ad, A = some ad → some ad.block ≠ row) : PRow w' A n zs := ⟨h.1, h.2.1, h.2.2.1, h.2.2.2.grown hg hr⟩
theorem PRow.of_own {base e c : Nat} (h : w.ownsRow base e 2 (.slice A n c) n (prs zs)) (hn : n ≤ 9223372036854775807) (hr : ∀ z ∈ zs, Rng z.1 ∧ Rng z.2) : PRow w A n zs :=
  ⟨by have := h.1; rw [prs_length] at this; omega, hn, hr, Rd.of_own h⟩
end

/-- A value that owns a row is a slice of that length. -/
theorem own_form {w : World} {base e size n : Nat} {v : Value} {xs : List Value} (h : w.ownsRow base e size v n xs) : ∃ A c, v = .slice A n c ∧ ∀ ad, A = some ad → base ≤ ad.block ∧ ad.block < w.heap.size := by
  rcases h.2 with ⟨rfl, rfl⟩ | ⟨g, cap, cur, rfl, hb, hg, _⟩
  · exact ⟨none, 0, rfl, fun ad h => by cases h⟩
  · exact ⟨some ⟨g, 0, none⟩, cap, rfl, fun ad h => by injection h with h; subst h; exact ⟨hb, (Array.getElem?_eq_some_iff.1 hg).1⟩⟩

/-- What is owned stays owned while nothing below the heap's size turns. -/
theorem own_below {w w' : World} {base e size n : Nat} {v : Value} {xs : List Value} (h : w.ownsRow base e size v n xs) (hb : Below w.heap.size w w') : w'.ownsRow base e size v n xs := by
  refine ⟨h.1, ?_⟩
  rcases h.2 with hn | ⟨g, cap, cur, rfl, hbb, hgg, rest⟩
  · exact .inl hn
  · refine .inr ⟨g, cap, cur, rfl, hbb, ?_, rest⟩
    rw [hb.block g (Array.getElem?_eq_some_iff.1 hgg).1]
    exact hgg
theorem own_base {w : World} {base base' e size n : Nat} {v : Value} {xs : List Value} (h : w.ownsRow base e size v n xs) (hb : base' ≤ base) : w.ownsRow base' e size v n xs := by
  refine ⟨h.1, ?_⟩
  rcases h.2 with hn | ⟨g, cap, cur, rfl, hbb, rest⟩
  · exact .inl hn
  · exact .inr ⟨g, cap, cur, rfl, by omega, rest⟩
theorem own_set_other {w : World} {base e size n : Nat} {v : Value} {xs : List Value} (h : w.ownsRow base e size v n xs) {p : Addr} (hp : v.ownBlock ≠ some p.block) (u : Value) : (w.setCell p u).ownsRow base e size v n xs := by
  refine ⟨h.1, ?_⟩
  rcases h.2 with hn | ⟨g, cap, cur, rfl, hbb, hgg, rest⟩
  · exact .inl hn
  · refine .inr ⟨g, cap, cur, rfl, hbb, ?_, rest⟩
    rw [Below.heap_setCell _ _ _ _ (fun e => hp (by simp [Value.ownBlock, e]))]
    exact hgg
/-- A row of n cells, none frozen: its length is n. -/
theorem own_len1 {w : World} {base e n : Nat} {v : Value} {xs : List Value} (h : w.ownsRow base e 1 v n xs) : xs.length = n := by have := h.1; omega
theorem own_cap {w : World} {base e size n c : Nat} {A : Option Addr} {xs : List Value} (h : w.ownsRow base e size (.slice A n c) n xs) : n ≤ c := by
  rcases h.2 with ⟨h1, h2⟩ | ⟨g, cap, cur, hv, _, _, hnc, _⟩
  · omega
  · injection hv with _ _ hc; omega
/-- The block of a non-empty row. -/
theorem own_some {w : World} {base e size n c : Nat} {A : Option Addr} {xs : List Value} (h : w.ownsRow base e size (.slice A n c) n xs) (hn : 0 < n) : ∃ g, A = some ⟨g, 0, none⟩ ∧ base ≤ g ∧ g < w.heap.size := by
  rcases h.2 with ⟨h1, h2⟩ | ⟨g, cap, cur, hv, hb, hg, _⟩
  · omega
  · injection hv with hA
    exact ⟨g, hA, hb, (Array.getElem?_eq_some_iff.1 hg).1⟩

theorem fill_get {α β : Type} (f : α → β) (d : β) (zs : List α) (n k : Nat) (hl : zs.length = n) (hk : k < n) : ((zs.take k).map f ++ List.replicate (n - k) d)[k]? = some d := by
  have ht : ((zs.take k).map f).length = k := by simp; omega
  rw [List.getElem?_append_right (by omega), ht, Nat.sub_self, List.getElem?_replicate, if_pos (by omega)]
theorem fill_step {α β : Type} (f : α → β) (d : β) (zs : List α) (n k : Nat) (z : α) (hl : zs.length = n) (hk : k < n) (hz : zs[k]? = some z) :
    ((zs.take k).map f ++ List.replicate (n - k) d).set k (f z) = (zs.take (k + 1)).map f ++ List.replicate (n - (k + 1)) d := by
  have ht : ((zs.take k).map f).length = k := by simp; omega
  obtain ⟨m, hm⟩ : ∃ m, n - k = m + 1 := ⟨n - k - 1, by omega⟩
  rw [List.set_append_right _ _ (by omega), ht, Nat.sub_self, hm, List.replicate_succ, List.set_cons_zero, List.take_add_one, hz, show n - (k + 1) = m from by omega]
  simp

section
variable {H : Type} {enc : TypeId × Value → H} {P : Program} {W : World}
/-- An argument []int64, opened. -/
theorem isRow_of {t e : TypeId} {a : Option Addr} {len cap : Nat} {d : DataW H} {p : List MemPlace} (ht : P.underlying t = some (.slice e)) (he : P.underlying e = some (.int .i64)) (hc : P.cellsOf e = 1)
    (h : DataW.Trod enc P W 0 (fun _ => true) true t (.slice a len cap) d p) : ∃ zs, IRow W a len zs := by
  obtain ⟨fuel, hf⟩ := h
  rcases open_ints ht he hc hf with ⟨hcs, _⟩ | ⟨x, l, c, zs, hcs, _, hl, hm, hz, _, hcell, hwz⟩
  · simp [Value.cells] at hcs
    obtain ⟨rfl, rfl, rfl⟩ := hcs
    exact ⟨[], rfl, by omega, by simp, Rd.nil⟩
  · simp [Value.cells] at hcs
    obtain ⟨rfl, rfl, rfl⟩ := hcs
    simp only [if_true] at hz
    refine ⟨zs.take len, by rw [List.length_take]; omega, by unfold maxLen at hm; omega, fun z hz' => bounds_i64 (hwz z (List.mem_of_mem_take hz')), fun j u hu => ?_⟩
    rw [List.getElem?_map, List.getElem?_take] at hu
    split at hu
    · rename_i hj
      have hjl : j < zs.length := by omega
      have hh := hcell j hjl
      rw [List.getElem?_eq_getElem hjl] at hu
      simp at hu
      subst hu
      exact ⟨_, rfl, by simpa [hjl] using hh⟩
    · simp at hu
/-- An argument that is a slice of structs of two int64, opened. -/
theorem isRow2_of {t e ti : TypeId} {f0 f1 : Field} {a : Option Addr} {len cap : Nat} {d : DataW H} {p : List MemPlace} (ht : P.underlying t = some (.slice e)) (he : P.underlying e = some (.struct #[f0, f1]))
    (hi : P.underlying ti = some (.int .i64)) (hone : (oneCellFields P #[f0, f1] && f0.type == ti && f1.type == ti) = true) (hC : P.cellsOf e = 2)
    (h : DataW.Trod enc P W 0 (fun _ => true) true t (.slice a len cap) d p) : ∃ zs, PRow W a len zs := by
  obtain ⟨fuel, hf⟩ := h
  simp only [Bool.and_eq_true, beq_iff_eq] at hone
  obtain ⟨⟨hone, h0⟩, h1⟩ := hone
  rcases open_slice ht hf with ⟨hcs, _⟩ | ⟨x, l, c, m, n, D, Pl, hcs, _, hl, hm, hmm, _, hel⟩
  · simp [Value.cells] at hcs
    obtain ⟨rfl, rfl, rfl⟩ := hcs
    exact ⟨[], rfl, by omega, by simp, Rd.nil⟩
  · simp [Value.cells] at hcs
    obtain ⟨rfl, rfl, rfl⟩ := hcs
    simp only [if_true] at hmm
    subst hmm
    have key : ∀ i, i < m → ∃ q : Int × Int, Rng q.1 ∧ Rng q.2 ∧ W.cell? (x.add (i * 2)) = some (.int .i64 q.1) ∧ W.cell? (x.add (i * 2 + 1)) = some (.int .i64 q.2) := by
      intro i him
      obtain ⟨cs', hc, htr⟩ := hel i him
      rw [hC] at hc
      obtain ⟨_, hlen, hat⟩ := World.cells?_some hc
      obtain ⟨y0, y1, n', _, _, g0, g1⟩ := trod_struct2 he htr
      obtain ⟨o0, k0⟩ := hone_of hone 0 f0 rfl
      obtain ⟨o1, k1⟩ := hone_of hone 1 f1 rfl
      rw [o0, k0] at g0
      rw [o1, k1] at g1
      obtain ⟨q0, e0, _, w0⟩ := DataW.trod_int (by rw [h0]; exact hi) g0
      obtain ⟨q1, e1, _, w1⟩ := DataW.trod_int (by rw [h1]; exact hi) g1
      match cs', hlen with
      | [c0, c1], _ =>
        simp at e0 e1
        subst e0 e1
        refine ⟨(q0, q1), bounds_i64 w0, bounds_i64 w1, ?_, ?_⟩
        · have := hat 0 (by omega); rw [addr_add] at this; simpa using this
        · have := hat 1 (by omega); rw [addr_add] at this; simpa using this
    have key2 : ∀ k, k ≤ m → ∃ zs : List (Int × Int), zs.length = k ∧ (∀ z ∈ zs, Rng z.1 ∧ Rng z.2) ∧ Rd W (some x) (prs zs) := by
      intro k
      induction k with
      | zero => intro _; exact ⟨[], rfl, by simp, Rd.nil⟩
      | succ k ih =>
        intro hk
        obtain ⟨zs, hzl, hzr, hzc⟩ := ih (by omega)
        obtain ⟨q, r1, r2, c1, c2⟩ := key k (by omega)
        refine ⟨zs ++ [q], by simp [hzl], ?_, ?_⟩
        · intro z hz
          rw [List.mem_append] at hz
          rcases hz with hz | hz
          · exact hzr z hz
          · simp at hz; subst hz; exact ⟨r1, r2⟩
        · intro j u hu
          rw [prs_append] at hu
          by_cases hj : j < (prs zs).length
          · rw [List.getElem?_append_left hj] at hu
            exact hzc j u hu
          · rw [List.getElem?_append_right (by omega)] at hu
            have hpl := prs_length zs
            rw [hzl] at hpl
            rcases Nat.lt_or_ge (j - (prs zs).length) 2 with hlt | hge
            · rcases (by omega : j - (prs zs).length = 0 ∨ j - (prs zs).length = 1) with h' | h'
              · rw [h'] at hu; simp [prs] at hu; subst hu
                exact ⟨x, rfl, by rw [show j = k * 2 from by omega]; exact c1⟩
              · rw [h'] at hu; simp [prs] at hu; subst hu
                exact ⟨x, rfl, by rw [show j = k * 2 + 1 from by omega]; exact c2⟩
            · rw [List.getElem?_eq_none (by simp [prs]; omega)] at hu
              cases hu
    obtain ⟨zs, hzl, hzr, hzc⟩ := key2 len (by omega)
    exact ⟨zs, hzl, by unfold maxLen at hm; omega, hzr, hzc⟩
end
end Go.Proofs.Ytlpglibnjmjjkaa
