/-
  Terms read from texts: plain laws.
  Rows of texts: comparison of equal rows, marks.
  Fractions read from texts: plain laws.
  Fractions read from texts: contracts of the program's and of the reference's functions; the walk of the law FnExactReadFraction.
  Fractions read from texts in the reference: contract; the walk of the law FnExactReadFraction.
  Terms with signs read from texts: contracts of the program's and of the reference's functions.
  Terms read from texts: contracts of the program's and of the reference's functions.
  Conditions: those of the law's own text, and that the package-level variables hold what the program's text lays in them.
-/
import Derived.Test.YtlpglibnjmjjkaaGreatDoorProg
import Derived.Test.YtlpglibnjmjjkaaGreatDoorE01
import Derived.Test.YtlpglibnjmjjkaaGreatDoorE03
import Derived.Test.YtlpglibnjmjjkaaGreatDoorE04
import Derived.Lib.CountLaws
import Derived.Lib.Replace
import Derived.Lib.IndexMore
import Derived.Handy
import Derived.BigQuiet
import Derived.RegionTactic
import Derived.BigRegion
import Derived.Deep.QuietTactic
import Derived.Deep.RegionHeld3
import Derived.Deep.DrawnRows
import Derived.Deep.AppendLies
import Derived.Test.YtlpglibnjmjjkaaGreatDoorE02
import Derived.Test.YtlpglibnjmjjkaaGreatDoorShelf
namespace Go.Proofs.YtlpglibnjmjjkaaGreatDoor
open Go.Lib
set_option linter.unusedVariables false

/-- Two bytes looked for. -/
theorem idx2_no (p q : UInt8) : ∀ a : List UInt8, a.count p = 0 → index a [p, q] = -1
  | [], _ => rfl
  | x :: a, h => by
    have hx : x ≠ p := fun e => by subst e; rw [List.count_cons_self] at h; omega
    rw [List.count_cons_of_ne (fun e => hx e)] at h
    have hp : List.isPrefixOf [p, q] (x :: a) = false := by
      show (p == x && List.isPrefixOf [q] a) = false
      rw [beq_eq_false_iff_ne.2 (Ne.symm hx)]; rfl
    rw [index, hp, idx2_no p q a h]; rfl
theorem idx2_at (p q : UInt8) : ∀ a b : List UInt8, a.count p = 0 → index (a ++ p :: q :: b) [p, q] = a.length
  | [], b, _ => by
    have hp : List.isPrefixOf [p, q] (p :: q :: b) = true := by simp [List.isPrefixOf]
    show index (p :: q :: b) [p, q] = _
    rw [index, hp]; rfl
  | x :: a, b, h => by
    have hx : x ≠ p := fun e => by subst e; rw [List.count_cons_self] at h; omega
    rw [List.count_cons_of_ne (fun e => hx e)] at h
    have hp : List.isPrefixOf [p, q] (x :: (a ++ p :: q :: b)) = false := by
      show (p == x && List.isPrefixOf [q] _) = false
      rw [beq_eq_false_iff_ne.2 (Ne.symm hx)]; rfl
    show index (x :: (a ++ p :: q :: b)) [p, q] = _
    rw [index, hp, idx2_at p q a b h]
    rw [if_neg (by simp), if_neg (by rw [beq_iff_eq]; omega), List.length_cons]
    omega
theorem itoa_no (c : UInt8) (h : c.toNat < 45 ∨ 57 < c.toNat) (n : Int) : (itoa n).count c = 0 := by
  rw [List.count_eq_zero]
  intro hm
  have hb := itoa_bytes n c hm
  omega
theorem itoa_no44 (n : Int) : (itoa n).count 44 = 0 := itoa_no 44 (by decide) n
theorem itoa_no59 (n : Int) : (itoa n).count 59 = 0 := itoa_no 59 (by decide) n
/-- The text without its brackets. -/
def inL : List Int → List UInt8
  | [] => []
  | z :: r => itoa z ++ bodL r
theorem txL_in {zs : List Int} (h : zs ≠ []) : txL zs = 91 :: inL zs ++ [93] := by
  match zs, h with
  | z :: r, _ => rfl
theorem count_no {s sub : List UInt8} (h : index s sub = -1) : count s sub = 0 := count_miss h
/-- The first semicolon made a comma. -/
theorem rep_in (z : Int) (r : List Int) : replace (inL (z :: r)) [59, 32] [44, 32] 1 = itoa z ++ tlL r := by
  unfold replace
  rw [if_neg (by decide)]
  cases r with
  | nil =>
    have hi : index (inL [z]) [59, 32] = -1 := idx2_no 59 32 _ (by show (itoa z ++ []).count 59 = 0; rw [List.append_nil]; exact itoa_no59 z)
    have hn : replaceNum (inL [z]) [59, 32] 1 = 0 := by
      unfold replaceNum
      rw [count_miss hi]; rfl
    rw [hn]; rfl
  | cons y t =>
    have hin : inL (z :: y :: t) = itoa z ++ 59 :: 32 :: (itoa y ++ tlL t) := by
      show itoa z ++ ([59, 32] ++ itoa y ++ tlL t) = _
      simp
    have hi : index (inL (z :: y :: t)) [59, 32] = (itoa z).length := by rw [hin]; exact idx2_at 59 32 _ _ (itoa_no59 z)
    have hn : replaceNum (inL (z :: y :: t)) [59, 32] 1 = 1 := by
      unfold replaceNum
      rw [count_hit (by simp) hi]
      split
      · next h => omega
      · rfl
    rw [hn, replaceK_hit _ _ 0 _ _ hi]
    show List.take _ _ ++ [44, 32] ++ List.drop _ _ = itoa z ++ ([44, 32] ++ itoa y ++ tlL t)
    rw [hin, List.take_left, List.drop_append]
    simp
/-- The pieces between the commas. -/
theorem spl2 : ∀ (r : List Int) (z : Int), count (itoa z ++ tlL r) [44, 32] = r.length ∧ splitK [44, 32] 0 r.length (itoa z ++ tlL r) = (z :: r).map itoa
  | [], z => by
    have hi : index (itoa z ++ tlL []) [44, 32] = -1 := idx2_no 44 32 _ (by show (itoa z ++ []).count 44 = 0; rw [List.append_nil]; exact itoa_no44 z)
    refine ⟨count_miss hi, ?_⟩
    show [itoa z ++ []] = [itoa z]
    rw [List.append_nil]
  | y :: t, z => by
    obtain ⟨h1, h2⟩ := spl2 t y
    have hin : itoa z ++ tlL (y :: t) = itoa z ++ 44 :: 32 :: (itoa y ++ tlL t) := by
      show itoa z ++ ([44, 32] ++ itoa y ++ tlL t) = _
      simp
    have hi : index (itoa z ++ tlL (y :: t)) [44, 32] = (itoa z).length := by rw [hin]; exact idx2_at 44 32 _ _ (itoa_no44 z)
    have hd : (itoa z ++ tlL (y :: t)).drop ((itoa z).length + 2) = itoa y ++ tlL t := by rw [hin, List.drop_append]; simp
    constructor
    · rw [count_hit (by simp) hi]
      show 1 + count (List.drop ((itoa z).length + 2) _) _ = _
      rw [hd, h1, List.length_cons]; omega
    · rw [List.length_cons, splitK, hi, if_neg (by rw [beq_iff_eq]; omega)]
      show List.take _ _ :: splitK [44, 32] 0 t.length (List.drop ((itoa z).length + 2) _) = _
      rw [hd, h2]
      have : ((itoa z).length : Int).toNat + 0 = (itoa z).length := by omega
      rw [this, hin, List.take_left]; rfl
theorem map_val (zs : List Int) : (zs.map itoa).map valI = zs := by
  rw [List.map_map]
  conv => rhs; rw [← List.map_id zs]
  exact List.map_congr_left (fun z _ => val_itoa z)
/-- The terms that a text spells. -/
def Gd (s : ByteArray) (zs : List Int) : Prop := trmB zs = true ∧ txL zs = s.data.toList
theorem Gd.ne {s : ByteArray} {zs : List Int} (h : Gd s zs) : zs ≠ [] := by
  intro e
  have := (trmB_iff.1 h.1).1
  rw [e] at this; simp at this
theorem Gd.data {s : ByteArray} {zs : List Int} (h : Gd s zs) : s.data.toList = 91 :: inL zs ++ [93] := by rw [← h.2, txL_in h.ne]
/-- What the program's pieces are. -/
def pcL (l : List UInt8) : List (List UInt8) := splitK [44, 32] 0 (count (replace l [59, 32] [44, 32] 1) [44, 32]) (replace l [59, 32] [44, 32] 1)
theorem pcL_in {zs : List Int} (h : zs ≠ []) : pcL (inL zs) = zs.map itoa := by
  match zs, h with
  | z :: r, _ =>
    unfold pcL
    rw [rep_in, (spl2 r z).1, (spl2 r z).2]
theorem inL_inj {zs zs' : List Int} (h : zs ≠ []) (h' : zs' ≠ []) (e : inL zs = inL zs') : zs = zs' := by
  have := pcL_in h
  rw [e, pcL_in h'] at this
  rw [← map_val zs, ← map_val zs', this]
theorem Gd.uniq {s : ByteArray} {zs zs' : List Int} (h : Gd s zs) (h' : Gd s zs') : zs = zs' := by
  refine inL_inj h.ne h'.ne ?_
  have := h.data.symm.trans h'.data
  have := List.cons.inj this
  exact List.append_cancel_right this.2
def TgR (s : ByteArray) (R : List Int) (b : Bool) : Prop := (b = true ∧ Gd s R) ∨ (b = false ∧ R = [] ∧ ∀ zs, ¬ Gd s zs)
theorem TgR.exists (s : ByteArray) : ∃ R b, TgR s R b := by
  by_cases h : ∃ zs, Gd s zs
  · obtain ⟨zs, h⟩ := h; exact ⟨zs, true, .inl ⟨rfl, h⟩⟩
  · exact ⟨[], false, .inr ⟨rfl, rfl, fun zs hz => h ⟨zs, hz⟩⟩⟩
theorem TgR.no {s : ByteArray} {R : List Int} {b : Bool} (h : TgR s R b) (hn : ∀ zs, ¬ Gd s zs) : b = false ∧ R = [] := by
  rcases h with ⟨_, h⟩ | ⟨h1, h2, _⟩
  · exact absurd h (hn R)
  · exact ⟨h1, h2⟩
theorem TgR.yes {s : ByteArray} {R zs : List Int} {b : Bool} (h : TgR s R b) (hz : Gd s zs) : b = true ∧ R = zs := by
  rcases h with ⟨h1, h⟩ | ⟨_, _, h⟩
  · exact ⟨h1, h.uniq hz⟩
  · exact absurd hz (h zs)
theorem Gd.rd {s : ByteArray} {zs : List Int} (h : Gd s zs) : ∀ z ∈ zs, rdB (itoa z) = true := by
  intro z hz
  obtain ⟨k, hk, e⟩ := List.mem_iff_getElem.1 hz
  have := (trmB_iff.1 h.1).2.2 k z (by rw [List.getElem?_eq_getElem hk, e])
  refine rdB_itoa ?_
  split at this <;> omega
/-- The reference's words. -/
def tpS (c : UInt8) : List Int → List (List UInt8)
  | [] => []
  | [z] => [itoa z]
  | z :: y :: r => (itoa z ++ [c]) :: tpS 44 (y :: r)
theorem jn_tpS : ∀ (r : List Int) (z : Int), jnL (tpS 44 (z :: r)) = itoa z ++ tlL r
  | [], z => by show itoa z ++ [] = itoa z ++ []; rfl
  | y :: r, z => by
    have ih := jn_tpS r y
    show (itoa z ++ [44]) ++ jnT (tpS 44 (y :: r)) = itoa z ++ ([44, 32] ++ itoa y ++ tlL r)
    have : jnT (tpS 44 (y :: r)) = 32 :: jnL (tpS 44 (y :: r)) := by cases r <;> rfl
    rw [this, ih]; simp
theorem jn_tp (z : Int) (r : List Int) : jnL (tpS 59 (z :: r)) = inL (z :: r) := by
  cases r with
  | nil => rfl
  | cons y r =>
    show (itoa z ++ [59]) ++ jnT (tpS 44 (y :: r)) = itoa z ++ ([59, 32] ++ itoa y ++ tlL r)
    have : jnT (tpS 44 (y :: r)) = 32 :: jnL (tpS 44 (y :: r)) := by cases r <;> rfl
    rw [this, jn_tpS]; simp
theorem tpS_len : ∀ (zs : List Int) (c : UInt8), (tpS c zs).length = zs.length
  | [], _ => rfl
  | [z], _ => rfl
  | z :: y :: r, c => by
    show (tpS 44 (y :: r)).length + 1 = _
    rw [tpS_len (y :: r) 44]; rfl
theorem tpS_get : ∀ (zs : List Int) (c : UInt8) (k : Nat) (p : List UInt8), (tpS c zs)[k]? = some p → ∃ z, zs[k]? = some z ∧ (if k + 1 < zs.length then p.dropLast else p) = itoa z ∧ ∃ d, p = itoa z ∨ (d = c ∨ d = 44) ∧ p = itoa z ++ [d]
  | [], _, k, p, h => by cases h
  | [z], c, k, p, h => by
    cases k with
    | zero =>
      have : itoa z = p := by injection h
      exact ⟨z, rfl, by rw [if_neg (by simp)]; exact this.symm, 0, .inl this.symm⟩
    | succ k => cases h
  | z :: y :: r, c, k, p, h => by
    cases k with
    | zero =>
      have : itoa z ++ [c] = p := by injection h
      exact ⟨z, rfl, by rw [if_pos (by simp), ← this, List.dropLast_concat], c, .inr ⟨.inl rfl, this.symm⟩⟩
    | succ k =>
      obtain ⟨w, h1, h2, d, h3⟩ := tpS_get (y :: r) 44 k p h
      refine ⟨w, h1, ?_, d, ?_⟩
      · rw [← h2]
        by_cases hk : k + 1 < (y :: r).length
        · rw [if_pos hk, if_pos (by rw [List.length_cons]; omega)]
        · rw [if_neg hk, if_neg (by rw [List.length_cons]; omega)]
      · rcases h3 with h3 | ⟨h3, h4⟩
        · exact .inl h3
        · exact .inr ⟨.inr (by rcases h3 with h | h <;> exact h), h4⟩
theorem wd_in {zs : List Int} (h : zs ≠ []) : wdL (inL zs) = tpS 59 zs := by
  match zs, h with
  | z :: r, _ =>
    have hm : ∀ p ∈ tpS 59 (z :: r), p.count 32 = 0 ∧ p ≠ [] := by
      intro p hp
      obtain ⟨k, hk, e⟩ := List.mem_iff_getElem.1 hp
      obtain ⟨w, _, _, d, hd⟩ := tpS_get (z :: r) 59 k p (by rw [List.getElem?_eq_getElem hk, e])
      rcases hd with hd | ⟨hd, he⟩
      · rw [hd]; exact ⟨itoa_no32 w, itoa_ne w⟩
      · rw [he, List.count_append, itoa_no32 w]
        refine ⟨?_, by simp⟩
        rcases hd with rfl | rfl <;> decide
    have hs : splL 32 (inL (z :: r)) = tpS 59 (z :: r) := by
      rw [← jn_tp]
      match ht : tpS 59 (z :: r) with
      | [] => have := tpS_len (z :: r) 59; rw [ht] at this; simp at this
      | p :: t => exact splL_jn t p (fun q hq => (hm q (by rw [ht]; exact hq)).1)
    unfold wdL wdF
    rw [hs]
    exact List.filter_eq_self.2 (fun p hp => by simpa using (hm p hp).2)
/-- All pieces read as numbers. -/
def rdO (p : List UInt8) : Option Int := if rdB p = true then some (valI p) else none
def AllI (E : Nat → List UInt8 → Option Int) (ls : List (List UInt8)) (zs : List Int) : Prop := zs.length = ls.length ∧ ∀ j p, ls[j]? = some p → E j p = zs[j]?
theorem AllI.uniq {E : Nat → List UInt8 → Option Int} {ls : List (List UInt8)} {zs zs' : List Int} (h : AllI E ls zs) (h' : AllI E ls zs') : zs = zs' := by
  apply List.ext_getElem?
  intro j
  cases hp : ls[j]? with
  | none =>
    have := List.getElem?_eq_none_iff.1 hp
    rw [List.getElem?_eq_none (by rw [h.1]; exact this), List.getElem?_eq_none (by rw [h'.1]; exact this)]
  | some p => rw [← h.2 j p hp, ← h'.2 j p hp]
theorem AllI.not {E : Nat → List UInt8 → Option Int} {ls : List (List UInt8)} {j : Nat} {p : List UInt8} (h : ls[j]? = some p) (he : E j p = none) : ∀ zs, ¬ AllI E ls zs := by
  intro zs hz
  have h1 := hz.2 j p h
  rw [he] at h1
  have h2 := List.getElem?_eq_none_iff.1 h1.symm
  have h3 := (List.getElem?_eq_some_iff.1 h).1
  have := hz.1
  omega
theorem AllI.start {E : Nat → List UInt8 → Option Int} : AllI E [] [] := ⟨rfl, fun j p h => by simp at h⟩
theorem AllI.step {E : Nat → List UInt8 → Option Int} {ls : List (List UInt8)} {k : Nat} {p : List UInt8} {zs : List Int} {z : Int} (h : AllI E (ls.take k) zs) (hp : ls[k]? = some p) (hz : E k p = some z) : AllI E (ls.take (k + 1)) (zs ++ [z]) := by
  have hk := (List.getElem?_eq_some_iff.1 hp).1
  have hl : zs.length = k := by rw [h.1, List.length_take]; omega
  refine ⟨by rw [List.length_append, hl, List.length_take]; simp; omega, fun j q hq => ?_⟩
  rw [List.getElem?_take] at hq
  split at hq
  · next hj =>
    by_cases hjk : j = k
    · subst hjk
      rw [hp] at hq
      injection hq with hq
      rw [← hq, hz, List.getElem?_append_right (by omega), hl]; simp
    · rw [List.getElem?_append_left (by omega)]
      exact h.2 j q (by rw [List.getElem?_take, if_pos (by omega)]; exact hq)
  · cases hq
theorem AllI.all {E : Nat → List UInt8 → Option Int} {ls : List (List UInt8)} {zs : List Int} (h : AllI E (ls.take ls.length) zs) : AllI E ls zs := by rwa [List.take_length] at h
/-- What the reference reads of a word: all but the last byte, where it is not the last word. -/
def twE (n k : Nat) (p : List UInt8) : Option Int := rdO (if k + 1 < n then p.dropLast else p)
theorem Gd.words {s : ByteArray} {zs : List Int} (h : Gd s zs) : AllI (twE zs.length) (wdL (inL zs)) zs := by
  rw [wd_in h.ne]
  refine ⟨(tpS_len zs 59).symm, fun j p hp => ?_⟩
  obtain ⟨z, h1, h2, _⟩ := tpS_get zs 59 j p hp
  unfold twE rdO
  rw [h2, if_pos (h.rd z (List.mem_of_getElem? h1)), val_itoa, h1]
theorem Gd.pieces {s : ByteArray} {zs : List Int} (h : Gd s zs) : AllI (fun _ => rdO) (pcL (inL zs)) zs := by
  rw [pcL_in h.ne]
  refine ⟨by simp, fun j p hp => ?_⟩
  rw [List.getElem?_map] at hp
  cases hz : zs[j]? with
  | none => rw [hz] at hp; cases hp
  | some z =>
    rw [hz] at hp
    injection hp with hp
    show rdO p = some z
    unfold rdO
    rw [← hp, if_pos (h.rd z (List.mem_of_getElem? hz)), val_itoa]
/-- The first byte, the last byte, and what lies between. -/
theorem Gd.ends {s : ByteArray} {zs : List Int} (h : Gd s zs) : 3 ≤ s.data.toList.length ∧ s.data.toList[0]? = some 91 ∧ s.data.toList[s.data.toList.length - 1]? = some 93 ∧ (s.data.toList.drop 1).take (s.data.toList.length - 2) = inL zs := by
  have hi : inL zs ≠ [] := by
    match zs, h.ne with
    | z :: r, _ => intro e; exact itoa_ne z (List.append_eq_nil_iff.1 e).1
  have hl : 1 ≤ (inL zs).length := by
    match inL zs, hi with
    | _ :: _, _ => simp
  have hd := h.data
  rw [hd]
  refine ⟨by simp; omega, rfl, ?_, ?_⟩
  · have : (91 :: inL zs ++ [93]).length - 1 = (91 :: inL zs).length := by simp
    rw [this, List.getElem?_append_right (Nat.le_refl _), Nat.sub_self]; rfl
  · have : (91 :: inL zs ++ [93]).length - 2 = (inL zs).length := by simp
    rw [this]
    show List.take _ (inL zs ++ [93]) = _
    exact List.take_left
theorem splitK_le (sep : List UInt8) : ∀ (k : Nat) (l : List UInt8), ∀ p ∈ splitK sep 0 k l, p.length ≤ l.length
  | 0, l, p, h => by
    rw [splitK, List.mem_singleton] at h
    rw [h]; exact Nat.le_refl _
  | k + 1, l, p, h => by
    rw [splitK] at h
    split at h
    · rw [List.mem_singleton] at h; rw [h]; exact Nat.le_refl _
    · rcases List.mem_cons.1 h with h | h
      · rw [h, List.length_take]; omega
      · have := splitK_le sep k _ p h
        rw [List.length_drop] at this; omega
theorem splitK_len (sep : List UInt8) (h1 : 1 ≤ sep.length) : ∀ (k : Nat) (l : List UInt8), (splitK sep 0 k l).length ≤ l.length + 1
  | 0, l => by rw [splitK]; simp
  | k + 1, l => by
    rw [splitK]
    split
    · simp
    · next hi =>
      have := splitK_len sep h1 k (l.drop ((index l sep).toNat + sep.length))
      rw [List.length_drop] at this
      rw [List.length_cons]
      have hle : (index l sep).toNat + sep.length ≤ l.length := by
        have h0 := index_ge l sep
        rw [beq_iff_eq] at hi
        have h2 := index_room l sep (by omega)
        omega
      omega
end Go.Proofs.YtlpglibnjmjjkaaGreatDoor
namespace Go.Proofs.YtlpglibnjmjjkaaGreatDoor
open Go.RowKit
set_option linter.unusedVariables false
set_option linter.unusedSimpArgs false
attribute [local go_sem ↓] Go.wp_at_zero Go.wp_at_succ

/-- A row of texts that can be read. -/
def TRow (w : World) (A : Option Addr) (n : Nat) (ts : List ByteArray) : Prop := ts.length = n ∧ n ≤ 1048577 ∧ Rd w A (ts.map Value.string)
theorem TRow.at_ {w : World} {A : Option Addr} {n : Nat} {ts : List ByteArray} {k : Nat} (h : TRow w A n ts) (hk : k < n) : ∃ ad t, A = some ad ∧ ts[k]? = some t ∧ w.cell? (ad.add k) = some (.string t) := by
  have hl : k < ts.length := by rw [h.1]; exact hk
  have hz : ts[k]? = some ts[k] := List.getElem?_eq_getElem hl
  obtain ⟨ad, e, hc⟩ := h.2.2 k (.string ts[k]) (by simp [hz])
  exact ⟨ad, _, e, hz, hc⟩
theorem TRow.below {w w' : World} {A : Option Addr} {n : Nat} {ts : List ByteArray} (h : TRow w A n ts) (hb : Below w.heap.size w w') : TRow w' A n ts := ⟨h.1, h.2.1, h.2.2.below hb⟩
theorem TRow.of_own {w : World} {A : Option Addr} {n base e c : Nat} {ts : List ByteArray} (h : w.ownsRow base e 1 (.slice A n c) n (ts.map Value.string)) (hn : n ≤ 1048577) : TRow w A n ts :=
  ⟨by have := h.1; simpa using this, hn, Rd.of_own h⟩
theorem grown_below {w w' w2 : World} {row : Option Nat} (h : w.grownBy w' row) (hb : Below w'.heap.size w' w2) : w.grownBy w2 row :=
  grown_trans h ⟨hb.os, hb.tape, hb.output, hb.size, fun i hi _ => hb.block i hi⟩
/-- The text of a mark. -/
def mtS (k : Int) : ByteArray := ⟨(109 :: digsU k.natAbs).toArray⟩
def mkT (k : Int) (n : Nat) : List ByteArray := (List.range n).map fun j : Nat => mtS (k + (j : Int))
theorem mkT_len (k : Int) (n : Nat) : (mkT k n).length = n := by unfold mkT; simp
theorem mkT_get (k : Int) (n j : Nat) (h : j < n) : (mkT k n)[j]? = some (mtS (k + (j : Int))) := by unfold mkT; rw [List.getElem?_map, List.getElem?_range h]; rfl
end Go.Proofs.YtlpglibnjmjjkaaGreatDoor
namespace Go.Proofs.YtlpglibnjmjjkaaGreatDoor
open Go.Lib
set_option linter.unusedVariables false

theorem itoa_one : itoa 1 = [49] := by
  unfold itoa
  rw [if_neg (by omega)]
  show decDigits 1 = _
  rw [dec_small (by omega)]; rfl
theorem rd_one : rdB [49] = true ∧ valI [49] = 1 := by
  have h := rdB_itoa (n := 1) (by decide)
  have h' := val_itoa 1
  rw [itoa_one] at h h'
  exact ⟨h, h'⟩
/-- The fraction that pieces spell. -/
def rfP : List (List UInt8) → Option (Int × Int)
  | [a] => if rdB a = true ∧ vfB (valI a) 1 = true then some (valI a, 1) else none
  | [a, b] => if rdB a = true ∧ rdB b = true ∧ valI b ≠ 1 ∧ vfB (valI a) (valI b) = true then some (valI a, valI b) else none
  | _ => none
/-- The fraction that a text spells. -/
def rfO (s : ByteArray) : Option (Int × Int) := rfP (splL 47 s.data.toList)
def rfT (s : ByteArray) : Int × Int × Bool := match rfO s with
  | some z => (z.1, z.2, true)
  | none => (0, 0, false)
theorem rfT_some {s : ByteArray} {z : Int × Int} (h : rfO s = some z) : rfT s = (z.1, z.2, true) := by unfold rfT; rw [h]
theorem rfT_none {s : ByteArray} (h : rfO s = none) : rfT s = (0, 0, false) := by unfold rfT; rw [h]
theorem rd_no47 {b : List UInt8} (h : rdB b = true) : b.count 47 = 0 := by
  rw [List.count_eq_zero]
  intro hm
  have hb := itoa_bytes (valI b) 47 (by rw [(rdB_iff.1 h).2]; exact hm)
  have : (47 : UInt8).toNat = 47 := by decide
  omega
/-- A text without the byte. -/
theorem cut_none {l : List UInt8} (h : index l [47] = -1) : cut l [47] = (l, [], false) ∧ splL 47 l = [l] := by
  refine ⟨?_, splL_none 47 l (index_none 47 l h)⟩
  unfold cut
  rw [if_neg (by omega)]
theorem index_hit (c : UInt8) : ∀ (l : List UInt8) (i : Nat), index l [c] = i → l = l.take i ++ c :: l.drop (i + 1) ∧ splL c l = l.take i :: splL c (l.drop (i + 1))
  | [], i, h => by rw [index] at h; simp at h
  | b :: r, i, h => by
    rw [index_cons] at h
    by_cases hb : b = c
    · rw [if_pos hb] at h
      have : i = 0 := by omega
      subst this hb
      exact ⟨rfl, splL_eq b r⟩
    · rw [if_neg hb] at h
      have hge := index_ge r [c]
      split at h
      · omega
      · obtain ⟨j, rfl⟩ : ∃ j, i = j + 1 := ⟨i - 1, by omega⟩
        obtain ⟨h1, h2⟩ := index_hit c r j (by omega)
        refine ⟨?_, ?_⟩
        · show b :: r = b :: (r.take j ++ c :: r.drop (j + 1))
          rw [← h1]
        · rw [splL_cons hb, h2]; rfl
theorem cut_some {l : List UInt8} (h : index l [47] ≠ -1) : ∃ a b, cut l [47] = (a, b, true) ∧ l = a ++ 47 :: b ∧ splL 47 l = a :: splL 47 b := by
  have hge := index_ge l [47]
  obtain ⟨i, hi⟩ : ∃ i : Nat, index l [47] = i := ⟨(index l [47]).toNat, by omega⟩
  obtain ⟨h1, h2⟩ := index_hit 47 l i hi
  refine ⟨l.take i, l.drop (i + 1), ?_, h1, h2⟩
  unfold cut
  rw [hi, if_pos (by omega)]
  have e2 : (i : Int).toNat = i := by omega
  rw [e2]; rfl
theorem rfP_two {a b : List UInt8} : rfP (a :: splL 47 b) = if rdB a = true ∧ rdB b = true ∧ valI b ≠ 1 ∧ vfB (valI a) (valI b) = true then some (valI a, valI b) else none := by
  by_cases hc : b.count 47 = 0
  · rw [splL_none 47 b hc]; rfl
  · have hb : rdB b = false := by
      cases h : rdB b
      · rfl
      · exact absurd (rd_no47 h) hc
    rw [if_neg (by rw [hb]; simp)]
    have hl := splL_len 47 b
    match hs : splL 47 b, hl with
    | [], hl => simp at hl
    | [x], hl => simp at hl; omega
    | x :: y :: r, _ => rfl
/-- What the program finds where the byte stands in the text. -/
theorem rf_two {s : ByteArray} {a b : List UInt8} (h : s.data.toList = a ++ 47 :: b) (hs : splL 47 s.data.toList = a :: splL 47 b) :
    (rdB a = false ∨ rdB b = false → rfO s = none) ∧ (rdB a = true → rdB b = true → (frS (valI a) (valI b) = s ∧ rfO s = some (valI a, valI b)) ∨ (frS (valI a) (valI b) ≠ s ∧ rfO s = none)) := by
  have e : rfO s = if rdB a = true ∧ rdB b = true ∧ valI b ≠ 1 ∧ vfB (valI a) (valI b) = true then some (valI a, valI b) else none := by
    unfold rfO; rw [hs, rfP_two]
  refine ⟨fun h => ?_, fun ha hb => ?_⟩
  · rw [e, if_neg]
    rintro ⟨h1, h2, _⟩
    rw [h1, h2] at h
    rcases h with h | h <;> cases h
  · have ea := (rdB_iff.1 ha).2
    have eb := (rdB_iff.1 hb).2
    have hne : ∀ x y : Int, frS x y = s → (frS x y).data.toList = a ++ 47 :: b := fun x y k => by rw [k, h]
    by_cases hv : vfB (valI a) (valI b) = true
    · by_cases h1 : valI b = 1
      · right
        refine ⟨fun k => ?_, by rw [e, if_neg (fun k => k.2.2.1 h1)]⟩
        have := hne _ _ k
        unfold frS at this
        rw [if_pos hv, if_pos h1, decS_data, ea] at this
        have := congrArg List.length this
        simp at this
      · left
        refine ⟨?_, by rw [e, if_pos ⟨ha, hb, h1, hv⟩]⟩
        refine str_ext ?_
        unfold frS
        rw [if_pos hv, if_neg h1, data_app, data_app, decS_data, decS_data, ea, eb, h]
        simp
    · right
      refine ⟨fun k => ?_, by rw [e, if_neg (fun k => hv k.2.2.2)]⟩
      have := hne _ _ k
      unfold frS at this
      rw [if_neg hv] at this
      have := congrArg List.length this
      simp at this
theorem rf_one {s : ByteArray} (hs : splL 47 s.data.toList = [s.data.toList]) :
    (rdB s.data.toList = false → rfO s = none) ∧ (rdB s.data.toList = true → (frS (valI s.data.toList) 1 = s ∧ rfO s = some (valI s.data.toList, 1)) ∨ (frS (valI s.data.toList) 1 ≠ s ∧ rfO s = none)) := by
  have e : rfO s = if rdB s.data.toList = true ∧ vfB (valI s.data.toList) 1 = true then some (valI s.data.toList, 1) else none := by
    unfold rfO; rw [hs]; rfl
  refine ⟨fun h => by rw [e, if_neg (by rw [h]; simp)], fun ha => ?_⟩
  have ea := (rdB_iff.1 ha).2
  have hne := (rdB_form ha).2.2.2.1
  by_cases hv : vfB (valI s.data.toList) 1 = true
  · left
    refine ⟨?_, by rw [e, if_pos ⟨ha, hv⟩]⟩
    unfold frS
    rw [if_pos hv, if_pos rfl]
    exact decS_eq.2 ea
  · right
    refine ⟨fun k => ?_, by rw [e, if_neg (fun k => hv k.2)]⟩
    unfold frS at k
    rw [if_neg hv] at k
    have : s.data.toList = [] := by rw [← k]
    rw [this] at hne
    exact hne rfl
end Go.Proofs.YtlpglibnjmjjkaaGreatDoor
namespace Go.Proofs.YtlpglibnjmjjkaaGreatDoor
open Go.RowKit
set_option linter.unusedVariables false
set_option linter.unusedSimpArgs false
attribute [local go_sem ↓] Go.wp_at_zero Go.wp_at_succ

/-- A box of two numbers that the call has made first. -/
def Bx (w W : World) (x y : Int) : Prop := W.cell? ⟨w.heap.size, 0, none⟩ = some (.int .i64 x) ∧ W.cell? ⟨w.heap.size, 1, none⟩ = some (.int .i64 y) ∧ W.frozen? ⟨w.heap.size, 0, none⟩ = false ∧ W.frozen? ⟨w.heap.size, 1, none⟩ = false ∧ Below w.heap.size w W ∧ w.heap.size < W.heap.size
theorem Bx.start (w : World) (x y : Int) (t : TypeId) : Bx w (w.alloc (.cells #[.int .i64 x, .int .i64 y] t)) x y :=
  ⟨newcellA rfl rfl, newcellA rfl rfl, by simp, by simp, (Below.refl _ _).alloc (Nat.le_refl _) _, by simp⟩
theorem Bx.keep {w W w1 : World} {x y : Int} (h : Bx w W x y) (hb : Below W.heap.size W w1) : Bx w w1 x y := by
  obtain ⟨h1, h2, f1, f2, h3, h4⟩ := h
  exact ⟨(hb.cell (p := ⟨w.heap.size, 0, none⟩) h4).trans h1, (hb.cell (p := ⟨w.heap.size, 1, none⟩) h4).trans h2, (hb.frozen (p := ⟨w.heap.size, 0, none⟩) h4).trans f1, (hb.frozen (p := ⟨w.heap.size, 1, none⟩) h4).trans f2, h3.trans (hb.mono h3.size), Nat.lt_of_lt_of_le h4 hb.size⟩
theorem Bx.bel {w W : World} {x y : Int} (h : Bx w W x y) : Below w.heap.size w W := h.2.2.2.2.1
theorem Bx.out2 {w W : World} {x y : Int} (h : Bx w W x y) (u v : Value) : Below w.heap.size w ((W.setCell ⟨w.heap.size, 0, none⟩ u).setCell ⟨w.heap.size, 1, none⟩ v) :=
  (h.bel.setCell (p := ⟨w.heap.size, 0, none⟩) (Nat.le_refl _) _).setCell (p := ⟨w.heap.size, 1, none⟩) (Nat.le_refl _) _
theorem Bx.res {w W : World} {x y : Int} (h : Bx w W x y) (o : Obj) (u v : Value) :
    (((W.setCell ⟨w.heap.size, 0, none⟩ u).setCell ⟨w.heap.size, 1, none⟩ v).alloc o).cell? ⟨w.heap.size, 0, none⟩ = some u ∧ (((W.setCell ⟨w.heap.size, 0, none⟩ u).setCell ⟨w.heap.size, 1, none⟩ v).alloc o).cell? ⟨w.heap.size, 1, none⟩ = some v :=
  ⟨(World.cell?_alloc_lt _ o _ (by simpa using h.2.2.2.2.2)).trans (pair_set h.1 h.2.1 u v).2.1, (World.cell?_alloc_lt _ o _ (by simpa using h.2.2.2.2.2)).trans (pair_set h.1 h.2.1 u v).2.2⟩

end Go.Proofs.YtlpglibnjmjjkaaGreatDoor
namespace Go.Proofs.YtlpglibnjmjjkaaGreatDoor
open Go.RowKit
set_option linter.unusedVariables false
set_option linter.unusedSimpArgs false
attribute [local go_sem ↓] Go.wp_at_zero Go.wp_at_succ

theorem splL_le (c : UInt8) : ∀ (l : List UInt8), ∀ p ∈ splL c l, p.length ≤ l.length
  | [], p, h => by simp [splL] at h; subst h; simp
  | b :: r, p, h => by
    have ih := splL_le c r
    by_cases hb : b = c
    · subst hb
      rw [splL_eq] at h
      rcases List.mem_cons.1 h with h | h
      · subst h; simp
      · have := ih p h; rw [List.length_cons]; omega
    · rw [splL_cons hb] at h
      match hs : splL c r with
      | [] => exact absurd hs (splL_ne c r)
      | a :: t =>
        rw [hs] at h
        rcases List.mem_cons.1 h with h | h
        · subst h
          have := ih a (by rw [hs]; simp)
          simp; omega
        · have := ih p (by rw [hs]; simp [h]); rw [List.length_cons]; omega
theorem Bx.set {w W : World} {x y : Int} (h : Bx w W x y) {b : Nat} (hb : w.heap.size < b) (o : Nat) (v : Value) : Bx w (W.setCell ⟨b, o, none⟩ v) x y := by
  obtain ⟨h1, h2, f1, f2, h3, h4⟩ := h
  have e : ∀ j, (⟨b, o, none⟩ : Addr) ≠ ⟨w.heap.size, j, none⟩ := fun j e => by injection e with e; omega
  exact ⟨setO (e 0) h1, setO (e 1) h2, setF f1, setF f2, h3.setCell (p := ⟨b, o, none⟩) (by show w.heap.size ≤ b; omega) _, by simpa using h4⟩
theorem pair_set2 {W : World} {g : Nat} {x y : Value} (h0 : W.cell? ⟨g, 0, none⟩ = some x) (h1 : W.cell? ⟨g, 1, none⟩ = some y) (v : Value) : (W.setCell ⟨g, 1, none⟩ v).cell? ⟨g, 0, none⟩ = some x ∧ (W.setCell ⟨g, 1, none⟩ v).cell? ⟨g, 1, none⟩ = some v :=
  ⟨setO (fun e => by injection e with e1 e2; omega) h0, setS h1⟩
theorem rdT_data {t : ByteArray} {a : List UInt8} (h : t.data.toList = a) : rdT t = if rdB a = true then (valI a, true) else (0, false) := by unfold rdT; rw [h]
end Go.Proofs.YtlpglibnjmjjkaaGreatDoor
namespace Go.Proofs.YtlpglibnjmjjkaaGreatDoor
open Go.RowKit
set_option linter.unusedVariables false
set_option linter.unusedSimpArgs false
attribute [local go_sem ↓] Go.wp_at_zero Go.wp_at_succ

theorem rdB_rng {l : List UInt8} (h : rdB l = true) : Rng (valI l) := by
  have := (rdB_form h).2.2.2.2
  unfold Rng; omega
theorem AllR.rng {E : Nat → List UInt8 → Option (Int × Int)} (hE : ∀ j p z, E j p = some z → Rng z.1 ∧ Rng z.2) {ls : List (List UInt8)} {zs : List (Int × Int)} (h : AllR E ls zs) : ∀ z ∈ zs, Rng z.1 ∧ Rng z.2 := by
  intro z hz
  obtain ⟨j, hj, e⟩ := List.mem_iff_getElem.1 hz
  have hl : j < ls.length := by rw [← h.1]; exact hj
  have := h.2 j ls[j] (List.getElem?_eq_getElem hl)
  rw [List.getElem?_eq_getElem hj, e] at this
  exact hE j _ z this
theorem rng1 : Rng 1 := by unfold Rng; omega
theorem rngm1 : Rng (-1) := by unfold Rng; omega
theorem rd1_rng {p : List UInt8} {z : Int × Int} (h : rd1 p = some z) : Rng z.1 ∧ Rng z.2 := by
  unfold rd1 at h
  split at h
  · next hr => injection h with h; subst h; exact ⟨rng1, rdB_rng hr⟩
  · cases h
theorem rl1_rng {p : List UInt8} {z : Int × Int} (h : rl1 p = some z) : Rng z.1 ∧ Rng z.2 := by
  match p, h with
  | [], h => cases h
  | b :: r, h =>
    by_cases h1 : b = 43
    · subst h1
      rw [rl1_p] at h
      split at h
      · next hr => injection h with h; subst h; exact ⟨rng1, rdB_rng hr⟩
      · cases h
    · by_cases h2 : b = 45
      · subst h2
        rw [rl1_m] at h
        split at h
        · next hr => injection h with h; subst h; exact ⟨rngm1, rdB_rng hr⟩
        · cases h
      · rw [rl1_o r h1 h2] at h
        split at h
        · next hr => injection h with h; subst h; exact ⟨rngm1, rdB_rng hr⟩
        · cases h
theorem rs1_rng {p : List UInt8} {z : Int × Int} (h : rs1 p = some z) : Rng z.1 ∧ Rng z.2 := by
  match p, h with
  | [], h => cases h
  | b :: r, h =>
    by_cases h1 : b = 43
    · subst h1; exact rl1_rng (p := 43 :: r) h
    · by_cases h2 : b = 45
      · subst h2; exact rl1_rng (p := 45 :: r) h
      · rw [rs1_o r h1 h2] at h; cases h
theorem rlE_rng (j : Nat) (p : List UInt8) (z : Int × Int) (h : rlE j p = some z) : Rng z.1 ∧ Rng z.2 := by
  unfold rlE at h
  split at h
  · exact rd1_rng h
  · exact rl1_rng h
theorem rsE_rng (j : Nat) (p : List UInt8) (z : Int × Int) (h : rsE j p = some z) : Rng z.1 ∧ Rng z.2 := by
  unfold rsE at h
  split at h
  · exact rd1_rng h
  · exact rs1_rng h
theorem rdT_dd (t : ByteArray) : rdT t = if rdB t.data.toList = true then (valI t.data.toList, true) else (0, false) := rdT_data rfl
/-- The result of a read: a slice of pairs, the call's own, and whether it could be read. -/
def ResR (base : Nat) (R : List (Int × Int)) (b : Bool) (e : Ending) (w : World) : Prop :=
  ∃ A c, e = .returned (.tuple #[.slice A R.length c, .bool b]) ∧ w.ownsRow base 86 2 (.slice A R.length c) R.length (prs R)
theorem Bx.set0 {w W : World} {x y : Int} (h : Bx w W x y) (u : Int) : Bx w (W.setCell ⟨w.heap.size, 0, none⟩ (.int .i64 u)) u y := by
  obtain ⟨h1, h2, f1, f2, h3, h4⟩ := h
  exact ⟨setS h1, setO (fun e => by injection e with _ e; omega) h2, setF f1, setF f2, h3.setCell (p := ⟨w.heap.size, 0, none⟩) (Nat.le_refl _) _, by simpa using h4⟩
theorem Bx.set1 {w W : World} {x y : Int} (h : Bx w W x y) (v : Int) : Bx w (W.setCell ⟨w.heap.size, 1, none⟩ (.int .i64 v)) x v := by
  obtain ⟨h1, h2, f1, f2, h3, h4⟩ := h
  exact ⟨setO (fun e => by injection e with _ e; omega) h1, setS h2, setF f1, setF f2, h3.setCell (p := ⟨w.heap.size, 1, none⟩) (Nat.le_refl _) _, by simpa using h4⟩
theorem bel3 {w w1 wr W : World} (hB1 : Below w.heap.size w w1) (hB : Below w1.heap.size w1 wr) (h : Below wr.heap.size wr W) : Below w.heap.size w W :=
  hB1.trans ((hB.trans (h.mono hB.size)).mono hB1.size)
theorem byte0 {t : ByteArray} {c : UInt8} {r : List UInt8} (h : t.data.toList = c :: r) (h0 : 0 < t.size) : t[0] = c := by
  have := Lib.data_getElem? t 0 h0
  rw [h] at this
  simpa using this.symm
theorem eqb {a c : UInt8} {n : Nat} (h : a = c) (hn : c.toNat = n) : ((a.toNat : Int) == (n : Int)) = true := by rw [h, hn]; exact beq_self_eq_true _
theorem neb {a c : UInt8} {n : Nat} (h : a ≠ c) (hn : c.toNat = n) : ((a.toNat : Int) == (n : Int)) = false := by
  rw [beq_eq_false_iff_ne]
  intro e
  exact h (Lib.byte_eq_of_toNat (by rw [hn]; exact e))
theorem ext1 {t : ByteArray} {c : UInt8} {r : List UInt8} (h : t.data.toList = c :: r) : (t.extract 1 t.size).data.toList = r := by rw [ext_end, h]; rfl
set_option maxRecDepth 100000 in
set_option maxHeartbeats 3200000 in
theorem specRsg_any (s : ByteArray) (w : World) (hs : s.size ≤ 1048576) (R : List (Int × Int)) (b : Bool) (hR : RgR s R b) :
    Calls Tryz.prog 28 #[.string s] w fun e w' => ResR w.heap.size R b e w' ∧ Below w.heap.size w w' := by
  obtain ⟨i0, hi, hz0, hz1, hz2⟩ := info_parts infoS
  have HSp := Lib.hid (l01Split_any s 32 w hs)
  have hll := splL_len_le 32 s.data.toList
  have hle := splL_le 32 s.data.toList
  have hne := splL_ne 32 s.data.toList
  rw [len_size] at hll hle
  have HR := Lib.hid hR
  have HNo := Lib.hid (fun j p h1 h2 => hR.no (Rg.not (s := s) (j := j) (p := p) h1 h2))
  generalize hls : splL 32 s.data.toList = ls at *
  have HLs := Lib.hid hls
  have HLe := Lib.hid hle
  clear hR hls hle
  go_enter Tryz.func28, Tryz.ntmps28
  go_wp2_with fail
  refine HSp.out.mono ?_
  rintro e w1 ⟨⟨A, c, ts, rfl, ho, hts⟩, hb1⟩
  obtain ⟨g, rfl, hg1, hg2⟩ := own_some ho (by match ls, hne with | _ :: _, _ => simp)
  have HT := Lib.hid hts
  have hn : ts.length = ls.length := by rw [← hts, List.length_map]
  have HCs := Lib.hid (fun (k : Nat) t ht => own_cellT (k := k) (t := t) ho ht)
  have HB1 := Lib.hid hb1
  have HO0 := Lib.hid (World.ownsRow_made (e := 86) (size := 2) w1 #[] 0 (Nat.le_refl _) (by decide) rfl)
  have hln : ls.length ≤ 1048577 := by omega
  obtain ⟨n, hnn⟩ : ∃ n, ls.length = n := ⟨_, rfl⟩
  rw [hnn] at hn hln ⊢
  have HN := Lib.hid hn
  have hg1 : g < w1.heap.size := hg2
  clear hts hb1 hnn ho hn hll
  go_wp2_with fail
  go_loopw [5, 6] (fun l i wr => ∃ (k cp : Nat) (B : Option Addr) (us : List (Int × Int)), k ≤ n ∧ i = .int .i64 k ∧ l = .slice B k cp ∧ wr.ownsRow w1.heap.size 86 2 (.slice B k cp) k (prs us) ∧ Hid (AllR rsE (ls.take k) us) ∧ Below w1.heap.size w1 wr) (fun _ i _ => n - (intOf i).toNat)
  case atStart => exact ⟨0, 0, _, [], Nat.zero_le _, rfl, rfl, by have := HO0.out; simpa [prs] using this, AllR.start, (Below.refl _ _).alloc (Nat.le_refl _) _⟩
  case round =>
    obtain ⟨k, cp, B, us, hkn, rfl, rfl, hown, HU, hbel⟩ := hrel
    have HO := Lib.hid hown
    have HB := Lib.hid hbel
    have HLF := Lib.hid hown.lt
    have hwr : w1.heap.size ≤ wr.heap.size := hbel.size
    clear hown
    by_cases hlt : k < n
    · obtain ⟨t, ht⟩ : ∃ t, ts[k]? = some t := ⟨ts[k]'(by have := HN.out; omega), List.getElem?_eq_getElem _⟩
      have hc : wr.cell? ⟨g, k, none⟩ = some (.string t) := (hbel.cell (p := ⟨g, k, none⟩) hg1).trans (HCs.out k t ht)
      have hp : ls[k]? = some t.data.toList := by rw [← HT.out, List.getElem?_map, ht]; rfl
      have HP := Lib.hid hp
      have hts : t.size ≤ 1048576 := by rw [← len_size]; exact Nat.le_trans (HLe.out _ (List.mem_of_getElem? hp)) hs
      clear ht hbel hp
      have hgw : g < wr.heap.size := by omega
      have HLt := Lib.hid (show k < ls.length by have := (List.getElem?_eq_some_iff.1 HP.out).1; exact this)
      have S0 := Lib.hid (Bx.start wr 1 0 86)
      -- what the round meets
      by_cases hk : k = 0
      · subst hk
        obtain ⟨x, ok, hrd, hx⟩ : ∃ x ok, rdT t = (x, ok) ∧ rd1 t.data.toList = if ok = true then some (1, x) else none := by
          rw [rdT_dd]; unfold rd1
          cases rdB t.data.toList
          · exact ⟨0, false, rfl, rfl⟩
          · exact ⟨_, true, rfl, rfl⟩
        have HNum := Lib.hid (fun W => l01Number_any t W hts)
        rw [hrd] at HNum
        have HX := Lib.hid (show rsE 0 t.data.toList = if ok = true then some (1, x) else none from hx)
        have S1 := S0
        clear hrd hx
        cases ok
        · obtain ⟨rfl, rfl⟩ := HNo.out 0 _ HP.out HX.out
          go_wp2_with fail
          refine (HNum.out _).mono ?_
          rintro e w2 ⟨rfl, hb2⟩
          have S2 := Lib.hid (S1.out.keep hb2)
          clear hb2
          go_wp2_with fail
          go_ret2
          exact ⟨⟨none, 0, rfl, World.ownsRow_nil ..⟩, bel3 HB1.out HB.out S2.out.bel⟩
        · have HX := Lib.hid (HX.out.trans (if_pos rfl))
          go_wp2_with fail
          refine (HNum.out _).mono ?_
          rintro e w2 ⟨rfl, hb2⟩
          have S2 := Lib.hid (S1.out.keep hb2)
          have S3 := Lib.hid (S2.out.set1 x)
          obtain ⟨c0, c1, f0, f1, _, hl2⟩ := S2.out
          obtain ⟨d0, d1, _⟩ := S3.out
          have HO3 := Lib.hid (own_below HO.out S3.out.bel)
          clear hb2
          go_wp2_with (first | (at_builtin; refine wpList_append_lies _ rfl (.tmp 54) (.tmp 56) 46 rfl w1.heap.size 86 i0 (.agg #[.int .i64 0, .int .i64 0]) 2 16 Tryz.underlying46 hi hz0 hz1 hz2 rfl (by decide) _ 0 (prs us) (by rfl) (HO3.out.alloc _) ⟨w2.heap.size, 0, none⟩ 1 1 [.int .i64 (1), .int .i64 x] (by rfl) rfl (fun j u hu => newcell (by simp) hu) (by simp [Value.oneCell']) (by decide) (by show 0 + 1 ≤ 9223372036854775807; omega) (by omega) (by simp; omega) (w2.heap.size + 1) (by simp) ?_; intro g' cap1 wn hown1 hgrow hat hlt1))
          go_roundw
          case rel =>
            refine ⟨0 + 1, cap1, _, us ++ [(1, x)], by omega, by go_num, rfl, ?_, HU.out.step HP.out HX.out, ?_⟩
            · rw [show prs (us ++ [(1, x)]) = prs us ++ [.int .i64 (1), .int .i64 x] from by rw [prs_append]; rfl]; exact hown1
            · exact ((HB.out.trans (S3.out.bel.mono hwr)).alloc (by have := S3.out.bel.size; omega) _).grown hgrow (by have := S3.out.bel.size; simp; omega) (fun j hj => (HLF.out j hj).1)
          case measure => simp [intOf]; omega
      · have hk0 : ((0 : Int) < (k : Int)) := by omega
        have HK := Lib.hid hk
        clear hk
        match hpp : t.data.toList with
        | [] =>
          have he : (t.toList == []) = true := by rw [ByteArray.toList_eq, hpp]; rfl
          obtain ⟨rfl, rfl⟩ := HNo.out k _ HP.out (by unfold rsE; rw [if_neg HK.out, hpp]; rfl)
          clear hpp
          go_wp2_with fail
          go_ret2
          exact ⟨⟨none, 0, rfl, World.ownsRow_nil ..⟩, bel3 HB1.out HB.out S0.out.bel⟩
        | ch :: r =>
          have he : (t.toList == []) = false := by rw [ByteArray.toList_eq, hpp]; rfl
          have h0 : 0 < t.size := by rw [← len_size, hpp]; simp
          have hb0 := byte0 hpp h0
          have hxd := ext1 hpp
          by_cases h43 : ch = 43
          · have hq1 : (t[0].toNat : Int) = 43 := by rw [hb0, h43]; rfl
            subst h43
            have hlr : t.data.toList.length = r.length + 1 := by rw [hpp]; rfl
            rw [len_size] at hlr
            have HNum := Lib.hid (fun W => l01Number_any (t.extract 1 t.size) W (by rw [← len_size, hxd]; omega))
            clear hlr
            obtain ⟨x, ok, hrd, hx⟩ : ∃ x ok, rdT (t.extract 1 t.size) = (x, ok) ∧ rs1 t.data.toList = if ok = true then some (1, x) else none := by
              rw [rdT_dd, hpp, hxd, rs1_p]
              cases rdB r
              · exact ⟨0, false, rfl, rfl⟩
              · exact ⟨_, true, rfl, rfl⟩
            rw [hrd] at HNum
            have HX := Lib.hid (show rsE k t.data.toList = if ok = true then some (1, x) else none by unfold rsE; rw [if_neg HK.out]; exact hx)
            have S1 := Lib.hid (S0.out)
            obtain ⟨z0, z1, zf0, zf1, _, zl⟩ := S0.out
            clear hrd hx hpp hxd hb0
            try clear h43
            cases ok
            · obtain ⟨rfl, rfl⟩ := HNo.out k _ HP.out HX.out
              go_wp2_with fail
              refine (HNum.out _).mono ?_
              rintro e w2 ⟨rfl, hb2⟩
              have S2 := Lib.hid (S1.out.keep hb2)
              clear hb2
              go_wp2_with fail
              go_ret2
              exact ⟨⟨none, 0, rfl, World.ownsRow_nil ..⟩, bel3 HB1.out HB.out S2.out.bel⟩
            · have HX := Lib.hid (HX.out.trans (if_pos rfl))
              go_wp2_with fail
              refine (HNum.out _).mono ?_
              rintro e w2 ⟨rfl, hb2⟩
              have S2 := Lib.hid (S1.out.keep hb2)
              have S3 := Lib.hid (S2.out.set1 x)
              obtain ⟨c0, c1, f0, f1, _, hl2⟩ := S2.out
              obtain ⟨d0, d1, _⟩ := S3.out
              have HO3 := Lib.hid (own_below HO.out S3.out.bel)
              clear hb2
              go_wp2_with (first | (at_builtin; refine wpList_append_lies _ rfl (.tmp 54) (.tmp 56) 46 rfl w1.heap.size 86 i0 (.agg #[.int .i64 0, .int .i64 0]) 2 16 Tryz.underlying46 hi hz0 hz1 hz2 rfl (by decide) _ k (prs us) (by rfl) (HO3.out.alloc _) ⟨w2.heap.size, 0, none⟩ 1 1 [.int .i64 (1), .int .i64 x] (by rfl) rfl (fun j u hu => newcell (by simp) hu) (by simp [Value.oneCell']) (by decide) (by show k + 1 ≤ 9223372036854775807; omega) (by omega) (by simp; omega) (w2.heap.size + 1) (by simp) ?_; intro g' cap1 wn hown1 hgrow hat hlt1))
              go_roundw
              case rel =>
                refine ⟨k + 1, cap1, _, us ++ [(1, x)], by omega, by go_num, rfl, ?_, HU.out.step HP.out HX.out, ?_⟩
                · rw [show prs (us ++ [(1, x)]) = prs us ++ [.int .i64 (1), .int .i64 x] from by rw [prs_append]; rfl]; exact hown1
                · exact ((HB.out.trans (S3.out.bel.mono hwr)).alloc (by have := S3.out.bel.size; omega) _).grown hgrow (by have := S3.out.bel.size; simp; omega) (fun j hj => (HLF.out j hj).1)
              case measure => simp [intOf]; omega
          · have hq1 : ((t[0].toNat : Int) == 43) = false := neb (a := t[0]) (c := 43) (n := 43) (by rw [hb0]; exact h43) rfl
            have hq1b : ((t[0].toNat : Int) != 43) = true := by rw [bne, hq1]; rfl
            have hq1c : ¬ (t[0].toNat : Int) = 43 := beq_eq_false_iff_ne.1 hq1
            by_cases h45 : ch = 45
            · have hq2 : (t[0].toNat : Int) = 45 := by rw [hb0, h45]; rfl
              clear hq1 hq1b hq1c
              subst h45
              have hlr : t.data.toList.length = r.length + 1 := by rw [hpp]; rfl
              rw [len_size] at hlr
              have HNum := Lib.hid (fun W => l01Number_any (t.extract 1 t.size) W (by rw [← len_size, hxd]; omega))
              clear hlr
              obtain ⟨x, ok, hrd, hx⟩ : ∃ x ok, rdT (t.extract 1 t.size) = (x, ok) ∧ rs1 t.data.toList = if ok = true then some (-1, x) else none := by
                rw [rdT_dd, hpp, hxd, rs1_m]
                cases rdB r
                · exact ⟨0, false, rfl, rfl⟩
                · exact ⟨_, true, rfl, rfl⟩
              rw [hrd] at HNum
              have HX := Lib.hid (show rsE k t.data.toList = if ok = true then some (-1, x) else none by unfold rsE; rw [if_neg HK.out]; exact hx)
              have S1 := Lib.hid (Bx.start wr (-1) 0 86)
              obtain ⟨z0, z1, zf0, zf1, _, zl⟩ := S0.out
              clear hrd hx hpp hxd hb0
              try clear h43
              cases ok
              · obtain ⟨rfl, rfl⟩ := HNo.out k _ HP.out HX.out
                go_wp2_with fail
                refine (HNum.out _).mono ?_
                rintro e w2 ⟨rfl, hb2⟩
                have S2 := Lib.hid (S1.out.keep hb2)
                clear hb2
                go_wp2_with fail
                go_ret2
                exact ⟨⟨none, 0, rfl, World.ownsRow_nil ..⟩, bel3 HB1.out HB.out S2.out.bel⟩
              · have HX := Lib.hid (HX.out.trans (if_pos rfl))
                go_wp2_with fail
                refine (HNum.out _).mono ?_
                rintro e w2 ⟨rfl, hb2⟩
                have S2 := Lib.hid (S1.out.keep hb2)
                have S3 := Lib.hid (S2.out.set1 x)
                obtain ⟨c0, c1, f0, f1, _, hl2⟩ := S2.out
                obtain ⟨d0, d1, _⟩ := S3.out
                have HO3 := Lib.hid (own_below HO.out S3.out.bel)
                clear hb2
                go_wp2_with (first | (at_builtin; refine wpList_append_lies _ rfl (.tmp 54) (.tmp 56) 46 rfl w1.heap.size 86 i0 (.agg #[.int .i64 0, .int .i64 0]) 2 16 Tryz.underlying46 hi hz0 hz1 hz2 rfl (by decide) _ k (prs us) (by rfl) (HO3.out.alloc _) ⟨w2.heap.size, 0, none⟩ 1 1 [.int .i64 (-1), .int .i64 x] (by rfl) rfl (fun j u hu => newcell (by simp) hu) (by simp [Value.oneCell']) (by decide) (by show k + 1 ≤ 9223372036854775807; omega) (by omega) (by simp; omega) (w2.heap.size + 1) (by simp) ?_; intro g' cap1 wn hown1 hgrow hat hlt1))
                go_roundw
                case rel =>
                  refine ⟨k + 1, cap1, _, us ++ [(-1, x)], by omega, by go_num, rfl, ?_, HU.out.step HP.out HX.out, ?_⟩
                  · rw [show prs (us ++ [(-1, x)]) = prs us ++ [.int .i64 (-1), .int .i64 x] from by rw [prs_append]; rfl]; exact hown1
                  · exact ((HB.out.trans (S3.out.bel.mono hwr)).alloc (by have := S3.out.bel.size; omega) _).grown hgrow (by have := S3.out.bel.size; simp; omega) (fun j hj => (HLF.out j hj).1)
                case measure => simp [intOf]; omega
            · have hq2 : ((t[0].toNat : Int) == 45) = false := neb (a := t[0]) (c := 45) (n := 45) (by rw [hb0]; exact h45) rfl
              have hq2b : ((t[0].toNat : Int) != 45) = true := by rw [bne, hq2]; rfl
              have hq2c : ¬ (t[0].toNat : Int) = 45 := beq_eq_false_iff_ne.1 hq2
              obtain ⟨rfl, rfl⟩ := HNo.out k _ HP.out (by unfold rsE; rw [if_neg HK.out, hpp]; exact rs1_o r h43 h45)
              clear hpp hxd hb0 h43 h45
              go_wp2_with fail
              go_ret2
              exact ⟨⟨none, 0, rfl, World.ownsRow_nil ..⟩, bel3 HB1.out HB.out S0.out.bel⟩
    · obtain rfl : n = k := by omega
      clear hlt
      have hA : AllR rsE ls us := by
        have h := HU.out
        have hl : ls.length = n := by rw [← HN.out, ← HT.out, List.length_map]
        rw [← hl] at h; exact h.all
      have HOk := Lib.hid (fun W h => l04Ok_any B n cp us W h)
      have HPr := Lib.hid (PRow.of_own HO.out (by omega) (hA.rng rsE_rng))
      cases hv : sgnB us
      · obtain ⟨rfl, rfl⟩ := HR.out.no (fun zs hz => by
          have e : zs = us := by
            refine AllR.uniq hz.1 ?_
            rw [HLs.out]; exact hA
          rw [e] at hz
          have := hz.2
          rw [hv] at this; cases this)
        rw [hv] at HOk
        clear hv hA hbel
        go_wp2_with fail
        refine (HOk.out _ HPr.out).mono ?_
        rintro e w2 ⟨rfl, rfl⟩
        go_wp2_with fail
        go_ret2
        exact ⟨⟨none, 0, rfl, World.ownsRow_nil ..⟩, bel3 HB1.out HB.out (Below.refl _ _)⟩
      · obtain ⟨rfl, rfl⟩ := HR.out.yes (zs := us) ⟨by rw [HLs.out]; exact hA, hv⟩
        rw [hv] at HOk
        have hl := own_lenP HO.out
        clear hv hA hbel
        subst hl
        go_wp2_with fail
        refine (HOk.out _ HPr.out).mono ?_
        rintro e w2 ⟨rfl, rfl⟩
        go_wp2_with fail
        go_ret2
        exact ⟨⟨B, cp, rfl, own_base HO.out HB1.out.size⟩, bel3 HB1.out HB.out (Below.refl _ _)⟩
theorem cutP_hit (t : ByteArray) (c : UInt8) (r : List UInt8) (h : t.data.toList = c :: r) (w : World) :
    Calls Tryz.prog 47 #[.string t, .string ⟨#[c]⟩] w fun e w' => e = .returned (.tuple #[.string ⟨r.toArray⟩, .bool true]) ∧ w' = w := by
  refine (Tryz.strings_CutPrefix t ⟨#[c]⟩ w).mono ?_
  rintro e w' ⟨h1, h2⟩
  have e1 : Lib.hasPrefix t.data.toList (⟨#[c]⟩ : ByteArray).data.toList = true := by rw [h]; simp [Lib.hasPrefix]
  have e2 : Lib.trimPrefix t.data.toList (⟨#[c]⟩ : ByteArray).data.toList = r := by unfold Lib.trimPrefix; rw [e1, if_pos rfl, h]; rfl
  rw [e1, e2] at h1
  exact ⟨h1, h2⟩
theorem cutP_miss (t : ByteArray) (c : UInt8) (h : ¬ ∃ r, t.data.toList = c :: r) (w : World) :
    Calls Tryz.prog 47 #[.string t, .string ⟨#[c]⟩] w fun e w' => e = .returned (.tuple #[.string t, .bool false]) ∧ w' = w := by
  refine (Tryz.strings_CutPrefix t ⟨#[c]⟩ w).mono ?_
  rintro e w' ⟨h1, h2⟩
  have e1 : Lib.hasPrefix t.data.toList (⟨#[c]⟩ : ByteArray).data.toList = false := by
    match hq : t.data.toList with
    | [] => simp [Lib.hasPrefix]
    | b :: r =>
      have : b ≠ c := fun e => h ⟨r, by rw [hq, e]⟩
      show (c == b && List.isPrefixOf [] r) = false
      rw [beq_eq_false_iff_ne.2 (Ne.symm this)]; rfl
  have e2 : Lib.trimPrefix t.data.toList (⟨#[c]⟩ : ByteArray).data.toList = t.data.toList := by unfold Lib.trimPrefix; rw [e1, if_neg (by simp)]
  rw [e1, e2] at h1
  exact ⟨by rw [h1, show (⟨t.data.toList.toArray⟩ : ByteArray) = t from str_ext (by simp)], h2⟩
theorem rs_rl {j : Nat} {p : List UInt8} {z : Int × Int} (h : rsE j p = some z) : rlE j p = some z := by
  unfold rsE at h
  unfold rlE
  by_cases hj : j = 0
  · rw [if_pos hj] at h ⊢; exact h
  · rw [if_neg hj] at h ⊢
    have := rs_sign h
    rw [rl_rs this (by unfold sgB; split; exact .inr rfl; exact .inl rfl)]; exact h
theorem AllR.loose {ls : List (List UInt8)} {zs : List (Int × Int)} (h : AllR rsE ls zs) : AllR rlE ls zs := by
  refine ⟨h.1, fun j p hp => ?_⟩
  have h1 := h.2 j p hp
  have hl : j < zs.length := by rw [h.1]; exact (List.getElem?_eq_some_iff.1 hp).1
  rw [List.getElem?_eq_getElem hl] at h1 ⊢
  exact rs_rl h1
set_option maxRecDepth 100000 in
set_option maxHeartbeats 3200000 in
theorem implRsg_any (s : ByteArray) (w : World) (hs : s.size ≤ 1048576) (hd : Dr w) (he : Er w) (hm : Mx w) (R : List (Int × Int)) (b : Bool) (hR : RgR s R b) :
    Calls Tryz.prog 26 #[.string s] w fun e w' => ResR w.heap.size R b e w' ∧ Below w.heap.size w w' := by
  obtain ⟨i0, hi, hz0, hz1, hz2⟩ := info_parts infoS
  have HSp := Lib.hid (splitAny s 32 w hs hm)
  have hll := splL_len_le 32 s.data.toList
  have hle := splL_le 32 s.data.toList
  rw [len_size] at hll hle
  have HR := Lib.hid hR
  have HTx := Lib.hid (fun zs => rl_text (s := s) (zs := zs))
  have HNo := Lib.hid (fun j p h1 h2 => hR.no (Rg.not (s := s) (j := j) (p := p) h1 h2))
  generalize hls : splL 32 s.data.toList = ls at *
  have HLs := Lib.hid hls
  have HLe := Lib.hid hle
  have HD := Lib.hid hd
  have HE := Lib.hid he
  clear hR hls hle hd he hm
  go_enter Tryz.func26, Tryz.ntmps26
  go_wp2_with fail
  refine HSp.out.mono ?_
  rintro e w1 ⟨ts, rfl, hts, hcs, hb1, hg1⟩
  have HT := Lib.hid hts
  have hn : ts.length = ls.length := by rw [← hts, List.length_map]
  have HCs := Lib.hid hcs
  have HB1 := Lib.hid hb1
  have hln : ts.length ≤ 1048577 := by omega
  obtain ⟨n, hnn⟩ : ∃ n, ts.length = n := ⟨_, rfl⟩
  rw [hnn] at hn hln ⊢
  have HN := Lib.hid hnn
  clear hts hcs hb1 hnn hn hll
  go_wp2_with fail
  go_loopw [4, 15] (fun l i wr => ∃ (k cp : Nat) (B : Option Addr) (us : List (Int × Int)), k ≤ n ∧ i = .int .i64 k ∧ l = .slice B k cp ∧ wr.ownsRow w1.heap.size 86 2 (.slice B k cp) k (prs us) ∧ Hid (AllR rlE (ls.take k) us) ∧ Below w1.heap.size w1 wr) (fun _ i _ => n - (intOf i).toNat)
  case atStart => exact ⟨0, 0, _, [], Nat.zero_le _, rfl, rfl, World.ownsRow_nil .., AllR.start, Below.refl _ _⟩
  case round =>
    obtain ⟨k, cp, B, us, hkn, rfl, rfl, hown, HU, hbel⟩ := hrel
    have HO := Lib.hid hown
    have HB := Lib.hid hbel
    have HLF := Lib.hid hown.lt
    have hwr : w1.heap.size ≤ wr.heap.size := hbel.size
    clear hown
    by_cases hlt : k < n
    · obtain ⟨t, ht⟩ : ∃ t, ts[k]? = some t := ⟨ts[k]'(by have := HN.out; omega), List.getElem?_eq_getElem _⟩
      have hc : wr.cell? ⟨w.heap.size, k, none⟩ = some (.string t) := (hbel.cell (p := ⟨w.heap.size, k, none⟩) hg1).trans (HCs.out k t ht)
      have hp : ls[k]? = some t.data.toList := by rw [← HT.out, List.getElem?_map, ht]; rfl
      have HP := Lib.hid hp
      have hts : t.size ≤ 1048576 := by rw [← len_size]; exact Nat.le_trans (HLe.out _ (List.mem_of_getElem? hp)) hs
      clear ht hbel hp
      have hgw : w.heap.size < wr.heap.size := by omega
      have S0 := Lib.hid (Bx.start wr 1 0 86)
      have HDB : ∀ W, Below wr.heap.size wr W → Dr W := fun W h => (HD.out.below (bel3 HB1.out HB.out h))
      have HEB : ∀ W, Below wr.heap.size wr W → Er W := fun W h => (HE.out.below (bel3 HB1.out HB.out h))
      have HDB := Lib.hid HDB
      have HEB := Lib.hid HEB
      -- what the round meets
      by_cases hk : k = 0
      · subst hk
        obtain ⟨x, ok, hrd, hx⟩ : ∃ x ok, rdT t = (x, ok) ∧ rd1 t.data.toList = if ok = true then some (1, x) else none := by
          rw [rdT_dd]; unfold rd1
          cases rdB t.data.toList
          · exact ⟨0, false, rfl, rfl⟩
          · exact ⟨_, true, rfl, rfl⟩
        have HNum := Lib.hid (fun W d e => readDecimal_any t W hts d e)
        rw [hrd] at HNum
        have HX := Lib.hid (show rlE 0 t.data.toList = if ok = true then some (1, x) else none from hx)
        have S1 := S0
        clear hrd hx
        cases ok
        · obtain ⟨rfl, rfl⟩ := HNo.out 0 _ HP.out (rl_none HX.out)
          go_wp2_with fail
          refine (HNum.out _ (HDB.out _ S1.out.bel) (HEB.out _ S1.out.bel)).mono ?_
          rintro e w2 ⟨rfl, hb2⟩
          have S2 := Lib.hid (S1.out.keep hb2)
          clear hb2
          go_wp2_with fail
          go_ret2
          exact ⟨⟨none, 0, rfl, World.ownsRow_nil ..⟩, bel3 HB1.out HB.out S2.out.bel⟩
        · have HX := Lib.hid (HX.out.trans (if_pos rfl))
          go_wp2_with fail
          refine (HNum.out _ (HDB.out _ S1.out.bel) (HEB.out _ S1.out.bel)).mono ?_
          rintro e w2 ⟨rfl, hb2⟩
          have S2 := Lib.hid (S1.out.keep hb2)
          have S3 := Lib.hid (S2.out.set1 x)
          obtain ⟨c0, c1, f0, f1, _, hl2⟩ := S2.out
          obtain ⟨d0, d1, _⟩ := S3.out
          have HO3 := Lib.hid (own_below HO.out S3.out.bel)
          clear hb2
          go_wp2_with (first | (at_builtin; refine wpList_append_lies _ rfl (.tmp 46) (.tmp 48) 46 rfl w1.heap.size 86 i0 (.agg #[.int .i64 0, .int .i64 0]) 2 16 Tryz.underlying46 hi hz0 hz1 hz2 rfl (by decide) _ 0 (prs us) (by rfl) (HO3.out.alloc _) ⟨w2.heap.size, 0, none⟩ 1 1 [.int .i64 (1), .int .i64 x] (by rfl) rfl (fun j u hu => newcell (by simp) hu) (by simp [Value.oneCell']) (by decide) (by show 0 + 1 ≤ 9223372036854775807; omega) (by omega) (by simp; omega) (w2.heap.size + 1) (by simp) ?_; intro g' cap1 wn hown1 hgrow hat hlt1))
          go_roundw
          case rel =>
            refine ⟨0 + 1, cap1, _, us ++ [(1, x)], by omega, by go_num, rfl, ?_, HU.out.step HP.out HX.out, ?_⟩
            · rw [show prs (us ++ [(1, x)]) = prs us ++ [.int .i64 (1), .int .i64 x] from by rw [prs_append]; rfl]; exact hown1
            · exact ((HB.out.trans (S3.out.bel.mono hwr)).alloc (by have := S3.out.bel.size; omega) _).grown hgrow (by have := S3.out.bel.size; simp; omega) (fun j hj => (HLF.out j hj).1)
          case measure => simp [intOf]; omega
      · have hk0 : ((0 : Int) < (k : Int)) := by omega
        have HK := Lib.hid hk
        clear hk
        by_cases h43 : ∃ r, t.data.toList = 43 :: r
        · obtain ⟨r, hpp⟩ := h43
          have HC1 := Lib.hid (fun W => cutP_hit t 43 r hpp W)
          obtain ⟨u, hu⟩ : ∃ u : ByteArray, u = ⟨r.toArray⟩ := ⟨_, rfl⟩
          rw [← hu] at HC1
          have hud : u.data.toList = r := by subst hu; simp
          have hlr : t.data.toList.length = r.length + 1 := by rw [hpp]; rfl
          rw [len_size] at hlr
          have hus : u.size ≤ 1048576 := by have := len_size u; rw [hud] at this; omega
          obtain ⟨x, ok, hrd, hx⟩ : ∃ x ok, rdT u = (x, ok) ∧ rl1 t.data.toList = if ok = true then some (1, x) else none := by
            rw [rdT_dd, hpp, hud, rl1_p]
            cases rdB r
            · exact ⟨0, false, rfl, rfl⟩
            · exact ⟨_, true, rfl, rfl⟩
          have HNum := Lib.hid (fun W d e => readDecimal_any u W hus d e)
          rw [hrd] at HNum
          have HX := Lib.hid (show rlE k t.data.toList = if ok = true then some (1, x) else none by unfold rlE; rw [if_neg HK.out]; exact hx)
          have S1 := S0
          obtain ⟨z0, z1, zf0, zf1, _, zl⟩ := S0.out
          clear hrd hx hpp hud hu hlr
          cases ok
          · obtain ⟨rfl, rfl⟩ := HNo.out k _ HP.out (rl_none HX.out)
            go_wp2_with fail
            refine (HC1.out _).mono ?_
            rintro e wz ⟨rfl, hw0⟩
            obtain rfl := hw0.symm
            clear hw0
            go_wp2_with fail
            refine (HNum.out _ (HDB.out _ S1.out.bel) (HEB.out _ S1.out.bel)).mono ?_
            rintro e w2 ⟨rfl, hb2⟩
            have S2 := Lib.hid (S1.out.keep hb2)
            clear hb2
            go_wp2_with fail
            go_ret2
            exact ⟨⟨none, 0, rfl, World.ownsRow_nil ..⟩, bel3 HB1.out HB.out S2.out.bel⟩
          · have HX := Lib.hid (HX.out.trans (if_pos rfl))
            go_wp2_with fail
            refine (HC1.out _).mono ?_
            rintro e wz ⟨rfl, hw0⟩
            obtain rfl := hw0.symm
            clear hw0
            go_wp2_with fail
            refine (HNum.out _ (HDB.out _ S1.out.bel) (HEB.out _ S1.out.bel)).mono ?_
            rintro e w2 ⟨rfl, hb2⟩
            have S2 := Lib.hid (S1.out.keep hb2)
            have S3 := Lib.hid (S2.out.set1 x)
            obtain ⟨c0, c1, f0, f1, _, hl2⟩ := S2.out
            obtain ⟨d0, d1, _⟩ := S3.out
            have HO3 := Lib.hid (own_below HO.out S3.out.bel)
            clear hb2
            go_wp2_with (first | (at_builtin; refine wpList_append_lies _ rfl (.tmp 46) (.tmp 48) 46 rfl w1.heap.size 86 i0 (.agg #[.int .i64 0, .int .i64 0]) 2 16 Tryz.underlying46 hi hz0 hz1 hz2 rfl (by decide) _ k (prs us) (by rfl) (HO3.out.alloc _) ⟨w2.heap.size, 0, none⟩ 1 1 [.int .i64 (1), .int .i64 x] (by rfl) rfl (fun j u hu => newcell (by simp) hu) (by simp [Value.oneCell']) (by decide) (by show k + 1 ≤ 9223372036854775807; omega) (by omega) (by simp; omega) (w2.heap.size + 1) (by simp) ?_; intro g' cap1 wn hown1 hgrow hat hlt1))
            go_roundw
            case rel =>
              refine ⟨k + 1, cap1, _, us ++ [(1, x)], by omega, by go_num, rfl, ?_, HU.out.step HP.out HX.out, ?_⟩
              · rw [show prs (us ++ [(1, x)]) = prs us ++ [.int .i64 (1), .int .i64 x] from by rw [prs_append]; rfl]; exact hown1
              · exact ((HB.out.trans (S3.out.bel.mono hwr)).alloc (by have := S3.out.bel.size; omega) _).grown hgrow (by have := S3.out.bel.size; simp; omega) (fun j hj => (HLF.out j hj).1)
            case measure => simp [intOf]; omega
        · have HC1 := Lib.hid (fun W => cutP_miss t 43 h43 W)
          obtain ⟨u, hC2, hus, hx0⟩ : ∃ u : ByteArray, (∀ W, Calls Tryz.prog 47 #[.string t, .string ⟨#[45]⟩] W fun e w' => (∃ q, e = .returned (.tuple #[.string u, .bool q])) ∧ w' = W) ∧ u.size ≤ 1048576 ∧ rl1 t.data.toList = if rdB u.data.toList = true then some (-1, valI u.data.toList) else none := by
            by_cases h45 : ∃ r, t.data.toList = 45 :: r
            · obtain ⟨r, hpp⟩ := h45
              have hlr : t.data.toList.length = r.length + 1 := by rw [hpp]; rfl
              rw [len_size] at hlr
              have hud : (⟨r.toArray⟩ : ByteArray).data.toList = r := by simp
              refine ⟨⟨r.toArray⟩, fun W => (cutP_hit t 45 r hpp W).mono (fun e w' h => ⟨⟨_, h.1⟩, h.2⟩), by rw [← len_size, hud]; omega, by rw [hpp, hud, rl1_m]⟩
            · refine ⟨t, fun W => (cutP_miss t 45 h45 W).mono (fun e w' h => ⟨⟨_, h.1⟩, h.2⟩), hts, ?_⟩
              match hq : t.data.toList with
              | [] =>
                rw [if_neg]; rfl
                intro h; exact (rdB_form h).2.2.2.1 rfl
              | ch :: r => exact rl1_o r (fun e => h43 ⟨r, by rw [hq, e]⟩) (fun e => h45 ⟨r, by rw [hq, e]⟩)
          have HC2 := Lib.hid hC2
          obtain ⟨x, ok, hrd, hx⟩ : ∃ x ok, rdT u = (x, ok) ∧ rl1 t.data.toList = if ok = true then some (-1, x) else none := by
            rw [rdT_dd, hx0]
            cases rdB u.data.toList
            · exact ⟨0, false, rfl, rfl⟩
            · exact ⟨_, true, rfl, rfl⟩
          have HNum := Lib.hid (fun W d e => readDecimal_any u W hus d e)
          rw [hrd] at HNum
          have HX := Lib.hid (show rlE k t.data.toList = if ok = true then some (-1, x) else none by unfold rlE; rw [if_neg HK.out]; exact hx)
          have S1 := Lib.hid (Bx.start wr (-1) 0 86)
          obtain ⟨z0, z1, zf0, zf1, _, zl⟩ := S0.out
          clear hrd hx hC2 hx0 h43
          cases ok
          · obtain ⟨rfl, rfl⟩ := HNo.out k _ HP.out (rl_none HX.out)
            go_wp2_with fail
            refine (HC1.out _).mono ?_
            rintro e wz ⟨rfl, hw0⟩
            obtain rfl := hw0.symm
            clear hw0
            go_wp2_with fail
            refine (HC2.out _).mono ?_
            rintro e wz ⟨⟨q, rfl⟩, hw0⟩
            obtain rfl := hw0.symm
            clear hw0
            go_wp2_with fail
            refine (HNum.out _ (HDB.out _ S1.out.bel) (HEB.out _ S1.out.bel)).mono ?_
            rintro e w2 ⟨rfl, hb2⟩
            have S2 := Lib.hid (S1.out.keep hb2)
            clear hb2
            go_wp2_with fail
            go_ret2
            exact ⟨⟨none, 0, rfl, World.ownsRow_nil ..⟩, bel3 HB1.out HB.out S2.out.bel⟩
          · have HX := Lib.hid (HX.out.trans (if_pos rfl))
            go_wp2_with fail
            refine (HC1.out _).mono ?_
            rintro e wz ⟨rfl, hw0⟩
            obtain rfl := hw0.symm
            clear hw0
            go_wp2_with fail
            refine (HC2.out _).mono ?_
            rintro e wz ⟨⟨q, rfl⟩, hw0⟩
            obtain rfl := hw0.symm
            clear hw0
            go_wp2_with fail
            refine (HNum.out _ (HDB.out _ S1.out.bel) (HEB.out _ S1.out.bel)).mono ?_
            rintro e w2 ⟨rfl, hb2⟩
            have S2 := Lib.hid (S1.out.keep hb2)
            have S3 := Lib.hid (S2.out.set1 x)
            obtain ⟨c0, c1, f0, f1, _, hl2⟩ := S2.out
            obtain ⟨d0, d1, _⟩ := S3.out
            have HO3 := Lib.hid (own_below HO.out S3.out.bel)
            clear hb2
            go_wp2_with (first | (at_builtin; refine wpList_append_lies _ rfl (.tmp 46) (.tmp 48) 46 rfl w1.heap.size 86 i0 (.agg #[.int .i64 0, .int .i64 0]) 2 16 Tryz.underlying46 hi hz0 hz1 hz2 rfl (by decide) _ k (prs us) (by rfl) (HO3.out.alloc _) ⟨w2.heap.size, 0, none⟩ 1 1 [.int .i64 (-1), .int .i64 x] (by rfl) rfl (fun j u hu => newcell (by simp) hu) (by simp [Value.oneCell']) (by decide) (by show k + 1 ≤ 9223372036854775807; omega) (by omega) (by simp; omega) (w2.heap.size + 1) (by simp) ?_; intro g' cap1 wn hown1 hgrow hat hlt1))
            go_roundw
            case rel =>
              refine ⟨k + 1, cap1, _, us ++ [(-1, x)], by omega, by go_num, rfl, ?_, HU.out.step HP.out HX.out, ?_⟩
              · rw [show prs (us ++ [(-1, x)]) = prs us ++ [.int .i64 (-1), .int .i64 x] from by rw [prs_append]; rfl]; exact hown1
              · exact ((HB.out.trans (S3.out.bel.mono hwr)).alloc (by have := S3.out.bel.size; omega) _).grown hgrow (by have := S3.out.bel.size; simp; omega) (fun j hj => (HLF.out j hj).1)
            case measure => simp [intOf]; omega
    · obtain rfl : n = k := by omega
      clear hlt
      have hA : AllR rlE ls us := by
        have h := HU.out
        have hl : ls.length = n := by rw [← HN.out, ← HT.out, List.length_map]
        rw [← hl] at h; exact h.all
      have HBw := HB1.out.trans (HB.out.mono HB1.out.size)
      have HSt := Lib.hid (implSgt_any B n cp us wr (PRow.of_own HO.out (by omega) (hA.rng rlE_rng)) (own_cap HO.out) (HD.out.below HBw))
      have hT := HTx.out us hA
      by_cases hq : sgS us = s
      · obtain ⟨rfl, rfl⟩ := HR.out.yes (zs := us) (hT.1 hq)
        have htl := tl_t hq
        have hl := own_lenP HO.out
        have HBw := Lib.hid HBw
        clear hA hbel hT hq
        subst hl
        go_wp2_with fail
        refine HSt.out.mono ?_
        rintro e w2 ⟨rfl, hb2⟩
        have HO2 := Lib.hid (own_below HO.out hb2)
        have HB2 := Lib.hid (bel3 HB1.out HB.out hb2)
        clear hb2
        go_wp2_with fail
        go_ret2
        exact ⟨⟨B, cp, rfl, own_base HO2.out HB1.out.size⟩, HB2.out⟩
      · obtain ⟨rfl, rfl⟩ := HR.out.no (fun zs hz => hq (by
          have e : zs = us := by
            refine AllR.uniq (E := rlE) (ls := ls) ?_ hA
            have h1 := hz.1
            rw [HLs.out] at h1
            exact h1.loose
          rw [e] at hz
          exact hT.2 hz))
        have htl := tl_f hq
        have HBw := Lib.hid HBw
        clear hA hbel hT hq
        go_wp2_with fail
        refine HSt.out.mono ?_
        rintro e w2 ⟨rfl, hb2⟩
        have HB2 := Lib.hid (bel3 HB1.out HB.out hb2)
        clear hb2
        go_wp2_with fail
        go_ret2
        exact ⟨⟨none, 0, rfl, World.ownsRow_nil ..⟩, HB2.out⟩
end Go.Proofs.YtlpglibnjmjjkaaGreatDoor
namespace Go.Proofs.YtlpglibnjmjjkaaGreatDoor
open Go.RowKit
set_option linter.unusedVariables false
set_option linter.unusedSimpArgs false
attribute [local go_sem ↓] Go.wp_at_zero Go.wp_at_succ

def ResT (base : Nat) (R : List Int) (b : Bool) (e : Ending) (w : World) : Prop :=
  ∃ A c, e = .returned (.tuple #[.slice A R.length c, .bool b]) ∧ w.ownsRow base 2 1 (.slice A R.length c) R.length (R.map (Value.int .i64))
theorem rdO_rdT (t : ByteArray) : ∃ x ok, rdT t = (x, ok) ∧ rdO t.data.toList = (if ok = true then some x else none) ∧ Rng x := by
  rw [rdT_dd]; unfold rdO
  cases h : rdB t.data.toList
  · exact ⟨0, false, rfl, rfl, by unfold Rng; omega⟩
  · exact ⟨_, true, rfl, rfl, rdB_rng h⟩
theorem AllI.rng {E : Nat → List UInt8 → Option Int} (hE : ∀ j p z, E j p = some z → Rng z) {ls : List (List UInt8)} {zs : List Int} (h : AllI E ls zs) : ∀ z ∈ zs, Rng z := by
  intro z hz
  obtain ⟨j, hj, e⟩ := List.mem_iff_getElem.1 hz
  have hl : j < ls.length := by rw [← h.1]; exact hj
  have := h.2 j ls[j] (List.getElem?_eq_getElem hl)
  rw [List.getElem?_eq_getElem hj, e] at this
  exact hE j _ z this
theorem rdO_rng (p : List UInt8) (z : Int) (h : rdO p = some z) : Rng z := by
  unfold rdO at h
  split at h
  · next hr => injection h with h; subst h; exact rdB_rng hr
  · cases h
theorem twE_rng (n j : Nat) (p : List UInt8) (z : Int) (h : twE n j p = some z) : Rng z := rdO_rng _ z h
theorem set_fill (a : List Int) (n k : Nat) (x : Int) (hl : a.length = k) (hk : k < n) :
    (a.map (Value.int .i64) ++ List.replicate (n - k) (Value.int .i64 0)).set k (.int .i64 x) = (a ++ [x]).map (Value.int .i64) ++ List.replicate (n - (k + 1)) (Value.int .i64 0) := by
  rw [show n - k = (n - (k + 1)) + 1 by omega, List.replicate_succ, List.set_append, if_neg (by rw [List.length_map]; omega), List.length_map, hl, Nat.sub_self]
  simp
set_option maxRecDepth 100000 in
set_option maxHeartbeats 3200000 in
theorem readDecimals_any (A : Option Addr) (n cap : Nat) (ts : List ByteArray) (w : World) (h : TRow w A n ts) (hsz : ∀ t ∈ ts, t.size ≤ 1048576) (h1 : 1 ≤ n) (hn : n ≤ 1048577) (hd : Dr w) (he : Er w) :
    Calls Tryz.prog 49 #[.slice A n cap] w fun e w' => (∃ (us : List Int) (ok : Bool), ResT w.heap.size us ok e w' ∧ (ok = true → AllI (fun _ => rdO) (ts.map fun t : ByteArray => t.data.toList) us) ∧ (ok = false → us = [] ∧ ∀ zs, ¬ AllI (fun _ => rdO) (ts.map fun t : ByteArray => t.data.toList) zs)) ∧ Below w.heap.size w w' := by
  have HLen := Lib.hid h.1
  have HSz := Lib.hid hsz
  obtain ⟨i0, hi, hz0, hz1, hz2⟩ := info_parts info_i64
  have hw := Lib.hid h; clear h hsz
  have HD := Lib.hid hd; clear hd
  have HE := Lib.hid he; clear he
  go_enter Tryz.func49, Tryz.ntmps49
  go_wp2_with (at_make; refine wpList_make_full _ rfl _ _ 28 rfl w.heap.size 2 i0 (.int .i64 0) 1 Tryz.underlying28 hi hz0 hz1 .i64 .i64 n n n rfl rfl rfl rfl ?c1 ?c2 ?c3 ?_)
  case c1 => rw [hz2]; omega
  case c2 => unfold maxLen; omega
  case c3 => exact Nat.le_refl _
  intro w1 hown hg
  have hb1 : Below w.heap.size w w1 := (Below.refl _ _).grown hg (Nat.le_refl _) (fun k hk => by cases hk)
  have hrow : w1.ownsRow w.heap.size 2 1 (.slice (some ⟨w.heap.size, 0, none⟩) n n) n (([] : List Int).map (Value.int .i64) ++ List.replicate (n - 0) (.int .i64 0)) := by
    rw [show ([] : List Int).map (Value.int .i64) ++ List.replicate (n - 0) (Value.int .i64 0) = (madeCells #[Value.int .i64 0] n).toList from by rw [toList_madeCells_one]; simp]
    exact hown
  have HRow := Lib.hid hrow
  have HB1 := Lib.hid hb1
  clear hown hg hi hz0 hz1 hz2 hrow hb1
  go_wp2_with fail
  go_loopw [14] (fun i wr => ∃ (k : Nat) (us : List Int), k ≤ n ∧ i = .int .i64 k ∧ wr.ownsRow w.heap.size 2 1 (.slice (some ⟨w.heap.size, 0, none⟩) n n) n (us.map (Value.int .i64) ++ List.replicate (n - k) (.int .i64 0)) ∧ Hid (AllI (fun _ => rdO) ((ts.map fun t : ByteArray => t.data.toList).take k) us) ∧ Below w.heap.size w wr) (fun i _ => n - (intOf i).toNat)
  case atStart => exact ⟨0, [], Nat.zero_le _, rfl, HRow.out, AllI.start, HB1.out⟩
  case round =>
    obtain ⟨k, us, hk, rfl, hr, HU, hb⟩ := hrel
    by_cases hlt : k < n
    · obtain ⟨ad, t, rfl, hz, hc⟩ := (hw.out.below hb).at_ hlt
      have hts := HSz.out t (List.mem_of_getElem? hz)
      have HP := Lib.hid (show (ts.map fun t : ByteArray => t.data.toList)[k]? = some t.data.toList by rw [List.getElem?_map, hz]; rfl)
      obtain ⟨x, ok, hrd, hx, hxr⟩ := rdO_rdT t
      have HNum := Lib.hid (fun W d e => readDecimal_any t W hts d e)
      rw [hrd] at HNum
      have hul : us.length = k := by rw [HU.out.1, List.length_take, List.length_map, HLen.out]; omega
      have HX := Lib.hid hx
      have HUL := Lib.hid hul
      have HO := Lib.hid hr
      have HB := Lib.hid hb
      clear hz hr hb hrd hx hul
      cases ok
      · have HF := Lib.hid (AllI.not HP.out (E := fun _ => rdO) HX.out)
        go_wp2_with fail
        refine (HNum.out _ (HD.out.below HB.out) (HE.out.below HB.out)).mono ?_
        rintro e w2 ⟨rfl, hb2⟩
        have HB2 := Lib.hid (HB.out.trans (hb2.mono HB.out.size))
        clear hb2 hc
        go_wp2_with fail
        go_ret2
        exact ⟨⟨[], false, ⟨none, 0, rfl, World.ownsRow_nil ..⟩, (fun h => by cases h), fun _ => ⟨rfl, HF.out⟩⟩, HB2.out⟩
      · have HX := Lib.hid (HX.out.trans (if_pos rfl))
        go_wp2_with fail
        refine (HNum.out _ (HD.out.below HB.out) (HE.out.below HB.out)).mono ?_
        rintro e w2 ⟨rfl, hb2⟩
        have hr2 := own_below HO.out hb2
        have hf := hr2.frozenAt k
        have hco : w2.cell? ⟨w.heap.size, k, none⟩ = some (.int .i64 0) := by
          rw [hr2.cellAt k (by omega), List.getElem?_append_right (by rw [List.length_map, HUL.out]; exact Nat.le_refl _), List.length_map, HUL.out, Nat.sub_self, List.getElem?_replicate, if_pos (by omega)]
        have hst := (hr2.stored k (.int .i64 x)).1
        rw [set_fill us n k x HUL.out hlt] at hst
        have hbs : Below w.heap.size w (w2.setCell ⟨w.heap.size, k, none⟩ (.int .i64 x)) := (HB.out.trans (hb2.mono HB.out.size)).setCell (p := ⟨w.heap.size, k, none⟩) (Nat.le_refl _) _
        have HS := Lib.hid hst
        have HBS := Lib.hid hbs
        clear hst hr2 hb2 hbs hc
        go_wp2_with fail
        go_roundw
        case rel => exact ⟨k + 1, us ++ [x], by omega, by go_num, HS.out, HU.out.step HP.out HX.out, HBS.out⟩
        case measure => simp [intOf]; omega
    · obtain rfl : n = k := by omega
      have hA := HU.out
      rw [List.take_of_length_le (by rw [List.length_map, HLen.out]; exact Nat.le_refl _)] at hA
      have hul : us.length = n := by rw [hA.1, List.length_map, HLen.out]
      rw [Nat.sub_self, List.replicate_zero, List.append_nil] at hr
      have HA := Lib.hid hA
      have HO := Lib.hid hr
      have HB := Lib.hid hb
      clear hr hb hA
      subst hul
      go_wp2_with fail
      go_ret2
      exact ⟨⟨us, true, ⟨_, _, rfl, HO.out⟩, fun _ => HA.out, (fun h => by cases h)⟩, HB.out⟩
end Go.Proofs.YtlpglibnjmjjkaaGreatDoor
