/-
  Words for results that are slices of the call's own; small lemmas on owned rows.
  No condition.
-/
import Derived.Test.YtlpglibnjmjjkaaProg
import Derived.Test.YtlpglibnjmjjkaaMem
import Derived.Test.YtlpglibnjmjjkaaBasic
import Derived.Test.YtlpglibnjmjjkaaInts
import Derived.Test.YtlpglibnjmjjkaaMarks
import Derived.Handy
import Derived.Deep.AppendLies
namespace Go.Proofs.Ytlpglibnjmjjkaa
open Go.RowKit
set_option linter.unusedVariables false

theorem infoF : (Try.prog.info? 30).map (fun i => (i.zero, i.size, i.bytes)) = some (some (.agg #[.int .i64 0, .int .i64 0]), 2, 16) := by kernel_rfl
theorem infoS : (Try.prog.info? 51).map (fun i => (i.zero, i.size, i.bytes)) = some (some (.agg #[.int .i64 0, .int .i64 0]), 2, 16) := by kernel_rfl

/-- A row that is cut behind is owned too. -/
theorem own_trunc {w : World} {base e size n c : Nat} {A : Option Addr} {xs : List Value} (h : w.ownsRow base e size (.slice A n c) n xs) (k : Nat) (hk : k ≤ n) : w.ownsRow base e size (.slice A k c) k (xs.take (k * size)) := by
  have hl := h.1
  refine ⟨by rw [List.length_take, hl]; exact Nat.min_eq_left (Nat.mul_le_mul_right _ hk), ?_⟩
  rcases h.2 with ⟨hv, hn⟩ | ⟨g, cap, cur, hv, hb, hg, hnc, hcm, hcs, htake⟩
  · injection hv with hA _ hc
    subst hA hc
    have : k = 0 := by omega
    subst this
    exact .inl ⟨rfl, rfl⟩
  · injection hv with hA _ hc
    subst hA hc
    exact .inr ⟨g, c, cur, rfl, hb, hg, by omega, hcm, hcs, by rw [← htake, List.take_take, Nat.min_eq_left (Nat.mul_le_mul_right _ hk)]⟩
theorem own_truncI {w : World} {base e n c : Nat} {A : Option Addr} {zs : List Int} (h : w.ownsRow base e 1 (.slice A n c) n (zs.map (Value.int .i64))) (k : Nat) (hk : k ≤ n) : w.ownsRow base e 1 (.slice A k c) k ((zs.take k).map (Value.int .i64)) := by
  have := own_trunc h k hk
  rwa [Nat.mul_one, ← List.map_take] at this
theorem own_lenI {w : World} {base e n : Nat} {v : Value} {zs : List Int} (h : w.ownsRow base e 1 v n (zs.map (Value.int .i64))) : zs.length = n := by have := h.1; simpa using this
theorem own_lenP {w : World} {base e n : Nat} {v : Value} {zs : List (Int × Int)} (h : w.ownsRow base e 2 v n (prs zs)) : zs.length = n := by have := h.1; rw [prs_length] at this; omega
/-- A number stored into an owned row. -/
theorem own_setI {w : World} {base e n c g : Nat} {zs : List Int} (h : w.ownsRow base e 1 (.slice (some ⟨g, 0, none⟩) n c) n (zs.map (Value.int .i64))) (k : Nat) (v : Int) :
    (w.setCell ⟨g, k, none⟩ (.int .i64 v)).ownsRow base e 1 (.slice (some ⟨g, 0, none⟩) n c) n ((zs.set k v).map (Value.int .i64)) := by
  have := (h.stored k (.int .i64 v)).1
  rwa [← List.map_set] at this
theorem own_cellI {w : World} {base e n c g : Nat} {zs : List Int} {k : Nat} {z : Int} (h : w.ownsRow base e 1 (.slice (some ⟨g, 0, none⟩) n c) n (zs.map (Value.int .i64))) (hz : zs[k]? = some z) : w.cell? ⟨g, k, none⟩ = some (.int .i64 z) := by
  have hl := own_lenI h
  have hk : k < n := by
    rcases Nat.lt_or_ge k zs.length with h' | h'
    · omega
    · rw [List.getElem?_eq_none h'] at hz; cases hz
  rw [h.cellAt k (by omega), List.getElem?_map, hz]; rfl

/-- A slice of numbers, the call's own. -/
def RetI (base : Nat) (zs : List Int) (e : Ending) (w : World) : Prop :=
  ∃ A c, e = .returned (.slice A zs.length c) ∧ w.ownsRow base 2 1 (.slice A zs.length c) zs.length (zs.map (Value.int .i64))
/-- The same, and a code. -/
def ResI (base : Nat) (zs : List Int) (k : Int) (e : Ending) (w : World) : Prop :=
  ∃ A c, e = .returned (.tuple #[.slice A zs.length c, .int .i64 k]) ∧ w.ownsRow base 2 1 (.slice A zs.length c) zs.length (zs.map (Value.int .i64))
def RetF (base : Nat) (zs : List (Int × Int)) (e : Ending) (w : World) : Prop :=
  ∃ A c, e = .returned (.slice A zs.length c) ∧ w.ownsRow base 30 2 (.slice A zs.length c) zs.length (prs zs)
def ResF (base : Nat) (zs : List (Int × Int)) (k : Int) (e : Ending) (w : World) : Prop :=
  ∃ A c, e = .returned (.tuple #[.slice A zs.length c, .int .i64 k]) ∧ w.ownsRow base 30 2 (.slice A zs.length c) zs.length (prs zs)
def ResFb (base : Nat) (zs : List (Int × Int)) (k : Bool) (e : Ending) (w : World) : Prop :=
  ∃ A c, e = .returned (.tuple #[.slice A zs.length c, .bool k]) ∧ w.ownsRow base 30 2 (.slice A zs.length c) zs.length (prs zs)
def ResS (base : Nat) (zs : List (Int × Int)) (k : Int) (e : Ending) (w : World) : Prop :=
  ∃ A c, e = .returned (.tuple #[.slice A zs.length c, .int .i64 k]) ∧ w.ownsRow base 51 2 (.slice A zs.length c) zs.length (prs zs)
def ResSb (base : Nat) (zs : List (Int × Int)) (k : Bool) (e : Ending) (w : World) : Prop :=
  ∃ A c, e = .returned (.tuple #[.slice A zs.length c, .bool k]) ∧ w.ownsRow base 51 2 (.slice A zs.length c) zs.length (prs zs)
theorem rng_mkI (n : Nat) (h : n ≤ 1099511627776) : ∀ z ∈ mkI 1 n, Rng z := by
  intro z hz
  unfold mkI at hz
  obtain ⟨j, hj, rfl⟩ := List.mem_map.mp hz
  have := List.mem_range.mp hj
  unfold Rng
  omega
theorem rng_mkP (n : Nat) (h : n ≤ 1099511627776) : ∀ z ∈ mkP 1 n, Rng z.1 ∧ Rng z.2 := by
  intro z hz
  unfold mkP at hz
  obtain ⟨j, hj, rfl⟩ := List.mem_map.mp hz
  have := List.mem_range.mp hj
  unfold Rng
  simp only
  omega
theorem setS {w : World} {a : Addr} {u v : Value} (h : w.cell? a = some u) : (w.setCell a v).cell? a = some v := World.cell?_setCell_same _ _ _ h
theorem setO {w : World} {a b : Addr} {u v : Value} (e : a ≠ b) (h : w.cell? b = some u) : (w.setCell a v).cell? b = some u := (World.cell?_setCell_other _ _ _ _ e).trans h
theorem setF {w : World} {a b : Addr} {v : Value} {f : Bool} (h : w.frozen? b = f) : (w.setCell a v).frozen? b = f := (World.frozen?_setCell ..).trans h
theorem grown_set {w w' : World} {g : Nat} (h : w.grownBy w' (some g)) (k : Nat) (v : Value) : w.grownBy (w'.setCell ⟨g, k, none⟩ v) (some g) :=
  grown_trans h ⟨rfl, rfl, rfl, by simp, fun i hi hr => Below.heap_setCell _ _ _ i (fun e => hr (by rw [e]))⟩
theorem grown_drew {w w' : World} {row : Option Nat} (h : w.grownBy w' row) : w.grownBy w'.drew row := grown_trans h ⟨rfl, rfl, rfl, by simp, fun i hi hr => rfl⟩
theorem newcell {W : World} {cs : Array Value} {t : TypeId} {n j : Nat} {u : Value} (hn : W.heap.size = n) (h : cs.toList[j]? = some u) : (W.alloc (.cells cs t)).cell? ((⟨n, 0, none⟩ : Addr).add j) = some u := by
  subst hn
  exact World.news_of_block (heap_alloc_new W _) j u h
theorem newcellA {W : World} {cs : Array Value} {t : TypeId} {n j : Nat} {u : Value} (hn : W.heap.size = n) (h : cs.toList[j]? = some u) : (W.alloc (.cells cs t)).cell? ⟨n, j, none⟩ = some u := by
  have := newcell (t := t) hn h
  rwa [addr_zero] at this
end Go.Proofs.Ytlpglibnjmjjkaa
