/-
  Terms read from texts: plain laws.
  No condition.
-/
import Derived.Test.YtnikogholldcmaaDoorProg
import Derived.Test.YtnikogholldcmaaDoorMem
import Derived.Test.YtnikogholldcmaaDoorNumM
import Derived.Test.YtnikogholldcmaaDoorAllk
import Derived.Test.YtnikogholldcmaaDoorTxtM
import Derived.Test.YtnikogholldcmaaDoorSplM
import Derived.Test.YtnikogholldcmaaDoorTtx
import Derived.Test.YtnikogholldcmaaDoorRsgM
import Derived.Test.YtnikogholldcmaaDoorSpw
import Derived.Lib.CountLaws
import Derived.Lib.Replace
import Derived.Lib.IndexMore
namespace Go.Proofs.YtnikogholldcmaaDoor
open Go.Lib
set_option linter.unusedVariables false

/-- Two bytes looked for. -/
theorem idx2_no (p q : UInt8) : ∀ a : List UInt8, a.count p = 0 → index a [p, q] = -1
  | [], _ => rfl
  | x :: a, h => by
    have hx : x ≠ p := fun e => by subst e; rw [List.count_cons_self] at h; omega
    rw [List.count_cons_of_ne (fun e => hx e)] at h
    have hp : List.isPrefixOf [p, q] (x :: a) = false := by
      show (p == x && List.isPrefixOf [q] a) = false
      rw [beq_eq_false_iff_ne.2 (Ne.symm hx)]; rfl
    rw [index, hp, idx2_no p q a h]; rfl
theorem idx2_at (p q : UInt8) : ∀ a b : List UInt8, a.count p = 0 → index (a ++ p :: q :: b) [p, q] = a.length
  | [], b, _ => by
    have hp : List.isPrefixOf [p, q] (p :: q :: b) = true := by simp [List.isPrefixOf]
    show index (p :: q :: b) [p, q] = _
    rw [index, hp]; rfl
  | x :: a, b, h => by
    have hx : x ≠ p := fun e => by subst e; rw [List.count_cons_self] at h; omega
    rw [List.count_cons_of_ne (fun e => hx e)] at h
    have hp : List.isPrefixOf [p, q] (x :: (a ++ p :: q :: b)) = false := by
      show (p == x && List.isPrefixOf [q] _) = false
      rw [beq_eq_false_iff_ne.2 (Ne.symm hx)]; rfl
    show index (x :: (a ++ p :: q :: b)) [p, q] = _
    rw [index, hp, idx2_at p q a b h]
    rw [if_neg (by simp), if_neg (by rw [beq_iff_eq]; omega), List.length_cons]
    omega
theorem itoa_no (c : UInt8) (h : c.toNat < 45 ∨ 57 < c.toNat) (n : Int) : (itoa n).count c = 0 := by
  rw [List.count_eq_zero]
  intro hm
  have hb := itoa_bytes n c hm
  omega
theorem itoa_no44 (n : Int) : (itoa n).count 44 = 0 := itoa_no 44 (by decide) n
theorem itoa_no59 (n : Int) : (itoa n).count 59 = 0 := itoa_no 59 (by decide) n
/-- The text without its brackets. -/
def inL : List Int → List UInt8
  | [] => []
  | z :: r => itoa z ++ bodL r
theorem txL_in {zs : List Int} (h : zs ≠ []) : txL zs = 91 :: inL zs ++ [93] := by
  match zs, h with
  | z :: r, _ => rfl
theorem count_no {s sub : List UInt8} (h : index s sub = -1) : count s sub = 0 := count_miss h
/-- The first semicolon made a comma. -/
theorem rep_in (z : Int) (r : List Int) : replace (inL (z :: r)) [59, 32] [44, 32] 1 = itoa z ++ tlL r := by
  unfold replace
  rw [if_neg (by decide)]
  cases r with
  | nil =>
    have hi : index (inL [z]) [59, 32] = -1 := idx2_no 59 32 _ (by show (itoa z ++ []).count 59 = 0; rw [List.append_nil]; exact itoa_no59 z)
    have hn : replaceNum (inL [z]) [59, 32] 1 = 0 := by
      unfold replaceNum
      rw [count_miss hi]; rfl
    rw [hn]; rfl
  | cons y t =>
    have hin : inL (z :: y :: t) = itoa z ++ 59 :: 32 :: (itoa y ++ tlL t) := by
      show itoa z ++ ([59, 32] ++ itoa y ++ tlL t) = _
      simp
    have hi : index (inL (z :: y :: t)) [59, 32] = (itoa z).length := by rw [hin]; exact idx2_at 59 32 _ _ (itoa_no59 z)
    have hn : replaceNum (inL (z :: y :: t)) [59, 32] 1 = 1 := by
      unfold replaceNum
      rw [count_hit (by simp) hi]
      split
      · next h => omega
      · rfl
    rw [hn, replaceK_hit _ _ 0 _ _ hi]
    show List.take _ _ ++ [44, 32] ++ List.drop _ _ = itoa z ++ ([44, 32] ++ itoa y ++ tlL t)
    rw [hin, List.take_left, List.drop_append]
    simp
/-- The pieces between the commas. -/
theorem spl2 : ∀ (r : List Int) (z : Int), count (itoa z ++ tlL r) [44, 32] = r.length ∧ splitK [44, 32] 0 r.length (itoa z ++ tlL r) = (z :: r).map itoa
  | [], z => by
    have hi : index (itoa z ++ tlL []) [44, 32] = -1 := idx2_no 44 32 _ (by show (itoa z ++ []).count 44 = 0; rw [List.append_nil]; exact itoa_no44 z)
    refine ⟨count_miss hi, ?_⟩
    show [itoa z ++ []] = [itoa z]
    rw [List.append_nil]
  | y :: t, z => by
    obtain ⟨h1, h2⟩ := spl2 t y
    have hin : itoa z ++ tlL (y :: t) = itoa z ++ 44 :: 32 :: (itoa y ++ tlL t) := by
      show itoa z ++ ([44, 32] ++ itoa y ++ tlL t) = _
      simp
    have hi : index (itoa z ++ tlL (y :: t)) [44, 32] = (itoa z).length := by rw [hin]; exact idx2_at 44 32 _ _ (itoa_no44 z)
    have hd : (itoa z ++ tlL (y :: t)).drop ((itoa z).length + 2) = itoa y ++ tlL t := by rw [hin, List.drop_append]; simp
    constructor
    · rw [count_hit (by simp) hi]
      show 1 + count (List.drop ((itoa z).length + 2) _) _ = _
      rw [hd, h1, List.length_cons]; omega
    · rw [List.length_cons, splitK, hi, if_neg (by rw [beq_iff_eq]; omega)]
      show List.take _ _ :: splitK [44, 32] 0 t.length (List.drop ((itoa z).length + 2) _) = _
      rw [hd, h2]
      have : ((itoa z).length : Int).toNat + 0 = (itoa z).length := by omega
      rw [this, hin, List.take_left]; rfl
theorem map_val (zs : List Int) : (zs.map itoa).map valI = zs := by
  rw [List.map_map]
  conv => rhs; rw [← List.map_id zs]
  exact List.map_congr_left (fun z _ => val_itoa z)
/-- The terms that a text spells. -/
def Gd (s : ByteArray) (zs : List Int) : Prop := trmB zs = true ∧ txL zs = s.data.toList
theorem Gd.ne {s : ByteArray} {zs : List Int} (h : Gd s zs) : zs ≠ [] := by
  intro e
  have := (trmB_iff.1 h.1).1
  rw [e] at this; simp at this
theorem Gd.data {s : ByteArray} {zs : List Int} (h : Gd s zs) : s.data.toList = 91 :: inL zs ++ [93] := by rw [← h.2, txL_in h.ne]
/-- What the program's pieces are. -/
def pcL (l : List UInt8) : List (List UInt8) := splitK [44, 32] 0 (count (replace l [59, 32] [44, 32] 1) [44, 32]) (replace l [59, 32] [44, 32] 1)
theorem pcL_in {zs : List Int} (h : zs ≠ []) : pcL (inL zs) = zs.map itoa := by
  match zs, h with
  | z :: r, _ =>
    unfold pcL
    rw [rep_in, (spl2 r z).1, (spl2 r z).2]
theorem inL_inj {zs zs' : List Int} (h : zs ≠ []) (h' : zs' ≠ []) (e : inL zs = inL zs') : zs = zs' := by
  have := pcL_in h
  rw [e, pcL_in h'] at this
  rw [← map_val zs, ← map_val zs', this]
theorem Gd.uniq {s : ByteArray} {zs zs' : List Int} (h : Gd s zs) (h' : Gd s zs') : zs = zs' := by
  refine inL_inj h.ne h'.ne ?_
  have := h.data.symm.trans h'.data
  have := List.cons.inj this
  exact List.append_cancel_right this.2
def TgR (s : ByteArray) (R : List Int) (b : Bool) : Prop := (b = true ∧ Gd s R) ∨ (b = false ∧ R = [] ∧ ∀ zs, ¬ Gd s zs)
theorem TgR.exists (s : ByteArray) : ∃ R b, TgR s R b := by
  by_cases h : ∃ zs, Gd s zs
  · obtain ⟨zs, h⟩ := h; exact ⟨zs, true, .inl ⟨rfl, h⟩⟩
  · exact ⟨[], false, .inr ⟨rfl, rfl, fun zs hz => h ⟨zs, hz⟩⟩⟩
theorem TgR.no {s : ByteArray} {R : List Int} {b : Bool} (h : TgR s R b) (hn : ∀ zs, ¬ Gd s zs) : b = false ∧ R = [] := by
  rcases h with ⟨_, h⟩ | ⟨h1, h2, _⟩
  · exact absurd h (hn R)
  · exact ⟨h1, h2⟩
theorem TgR.yes {s : ByteArray} {R zs : List Int} {b : Bool} (h : TgR s R b) (hz : Gd s zs) : b = true ∧ R = zs := by
  rcases h with ⟨h1, h⟩ | ⟨_, _, h⟩
  · exact ⟨h1, h.uniq hz⟩
  · exact absurd hz (h zs)
theorem Gd.rd {s : ByteArray} {zs : List Int} (h : Gd s zs) : ∀ z ∈ zs, rdB (itoa z) = true := by
  intro z hz
  obtain ⟨k, hk, e⟩ := List.mem_iff_getElem.1 hz
  have := (trmB_iff.1 h.1).2.2 k z (by rw [List.getElem?_eq_getElem hk, e])
  refine rdB_itoa ?_
  split at this <;> omega
/-- The reference's words. -/
def tpS (c : UInt8) : List Int → List (List UInt8)
  | [] => []
  | [z] => [itoa z]
  | z :: y :: r => (itoa z ++ [c]) :: tpS 44 (y :: r)
theorem jn_tpS : ∀ (r : List Int) (z : Int), jnL (tpS 44 (z :: r)) = itoa z ++ tlL r
  | [], z => by show itoa z ++ [] = itoa z ++ []; rfl
  | y :: r, z => by
    have ih := jn_tpS r y
    show (itoa z ++ [44]) ++ jnT (tpS 44 (y :: r)) = itoa z ++ ([44, 32] ++ itoa y ++ tlL r)
    have : jnT (tpS 44 (y :: r)) = 32 :: jnL (tpS 44 (y :: r)) := by cases r <;> rfl
    rw [this, ih]; simp
theorem jn_tp (z : Int) (r : List Int) : jnL (tpS 59 (z :: r)) = inL (z :: r) := by
  cases r with
  | nil => rfl
  | cons y r =>
    show (itoa z ++ [59]) ++ jnT (tpS 44 (y :: r)) = itoa z ++ ([59, 32] ++ itoa y ++ tlL r)
    have : jnT (tpS 44 (y :: r)) = 32 :: jnL (tpS 44 (y :: r)) := by cases r <;> rfl
    rw [this, jn_tpS]; simp
theorem tpS_len : ∀ (zs : List Int) (c : UInt8), (tpS c zs).length = zs.length
  | [], _ => rfl
  | [z], _ => rfl
  | z :: y :: r, c => by
    show (tpS 44 (y :: r)).length + 1 = _
    rw [tpS_len (y :: r) 44]; rfl
theorem tpS_get : ∀ (zs : List Int) (c : UInt8) (k : Nat) (p : List UInt8), (tpS c zs)[k]? = some p → ∃ z, zs[k]? = some z ∧ (if k + 1 < zs.length then p.dropLast else p) = itoa z ∧ ∃ d, p = itoa z ∨ (d = c ∨ d = 44) ∧ p = itoa z ++ [d]
  | [], _, k, p, h => by cases h
  | [z], c, k, p, h => by
    cases k with
    | zero =>
      have : itoa z = p := by injection h
      exact ⟨z, rfl, by rw [if_neg (by simp)]; exact this.symm, 0, .inl this.symm⟩
    | succ k => cases h
  | z :: y :: r, c, k, p, h => by
    cases k with
    | zero =>
      have : itoa z ++ [c] = p := by injection h
      exact ⟨z, rfl, by rw [if_pos (by simp), ← this, List.dropLast_concat], c, .inr ⟨.inl rfl, this.symm⟩⟩
    | succ k =>
      obtain ⟨w, h1, h2, d, h3⟩ := tpS_get (y :: r) 44 k p h
      refine ⟨w, h1, ?_, d, ?_⟩
      · rw [← h2]
        by_cases hk : k + 1 < (y :: r).length
        · rw [if_pos hk, if_pos (by rw [List.length_cons]; omega)]
        · rw [if_neg hk, if_neg (by rw [List.length_cons]; omega)]
      · rcases h3 with h3 | ⟨h3, h4⟩
        · exact .inl h3
        · exact .inr ⟨.inr (by rcases h3 with h | h <;> exact h), h4⟩
theorem wd_in {zs : List Int} (h : zs ≠ []) : wdL (inL zs) = tpS 59 zs := by
  match zs, h with
  | z :: r, _ =>
    have hm : ∀ p ∈ tpS 59 (z :: r), p.count 32 = 0 ∧ p ≠ [] := by
      intro p hp
      obtain ⟨k, hk, e⟩ := List.mem_iff_getElem.1 hp
      obtain ⟨w, _, _, d, hd⟩ := tpS_get (z :: r) 59 k p (by rw [List.getElem?_eq_getElem hk, e])
      rcases hd with hd | ⟨hd, he⟩
      · rw [hd]; exact ⟨itoa_no32 w, itoa_ne w⟩
      · rw [he, List.count_append, itoa_no32 w]
        refine ⟨?_, by simp⟩
        rcases hd with rfl | rfl <;> decide
    have hs : splL 32 (inL (z :: r)) = tpS 59 (z :: r) := by
      rw [← jn_tp]
      match ht : tpS 59 (z :: r) with
      | [] => have := tpS_len (z :: r) 59; rw [ht] at this; simp at this
      | p :: t => exact splL_jn t p (fun q hq => (hm q (by rw [ht]; exact hq)).1)
    unfold wdL wdF
    rw [hs]
    exact List.filter_eq_self.2 (fun p hp => by simpa using (hm p hp).2)
/-- All pieces read as numbers. -/
def rdO (p : List UInt8) : Option Int := if rdB p = true then some (valI p) else none
def AllI (E : Nat → List UInt8 → Option Int) (ls : List (List UInt8)) (zs : List Int) : Prop := zs.length = ls.length ∧ ∀ j p, ls[j]? = some p → E j p = zs[j]?
theorem AllI.uniq {E : Nat → List UInt8 → Option Int} {ls : List (List UInt8)} {zs zs' : List Int} (h : AllI E ls zs) (h' : AllI E ls zs') : zs = zs' := by
  apply List.ext_getElem?
  intro j
  cases hp : ls[j]? with
  | none =>
    have := List.getElem?_eq_none_iff.1 hp
    rw [List.getElem?_eq_none (by rw [h.1]; exact this), List.getElem?_eq_none (by rw [h'.1]; exact this)]
  | some p => rw [← h.2 j p hp, ← h'.2 j p hp]
theorem AllI.not {E : Nat → List UInt8 → Option Int} {ls : List (List UInt8)} {j : Nat} {p : List UInt8} (h : ls[j]? = some p) (he : E j p = none) : ∀ zs, ¬ AllI E ls zs := by
  intro zs hz
  have h1 := hz.2 j p h
  rw [he] at h1
  have h2 := List.getElem?_eq_none_iff.1 h1.symm
  have h3 := (List.getElem?_eq_some_iff.1 h).1
  have := hz.1
  omega
theorem AllI.start {E : Nat → List UInt8 → Option Int} : AllI E [] [] := ⟨rfl, fun j p h => by simp at h⟩
theorem AllI.step {E : Nat → List UInt8 → Option Int} {ls : List (List UInt8)} {k : Nat} {p : List UInt8} {zs : List Int} {z : Int} (h : AllI E (ls.take k) zs) (hp : ls[k]? = some p) (hz : E k p = some z) : AllI E (ls.take (k + 1)) (zs ++ [z]) := by
  have hk := (List.getElem?_eq_some_iff.1 hp).1
  have hl : zs.length = k := by rw [h.1, List.length_take]; omega
  refine ⟨by rw [List.length_append, hl, List.length_take]; simp; omega, fun j q hq => ?_⟩
  rw [List.getElem?_take] at hq
  split at hq
  · next hj =>
    by_cases hjk : j = k
    · subst hjk
      rw [hp] at hq
      injection hq with hq
      rw [← hq, hz, List.getElem?_append_right (by omega), hl]; simp
    · rw [List.getElem?_append_left (by omega)]
      exact h.2 j q (by rw [List.getElem?_take, if_pos (by omega)]; exact hq)
  · cases hq
theorem AllI.all {E : Nat → List UInt8 → Option Int} {ls : List (List UInt8)} {zs : List Int} (h : AllI E (ls.take ls.length) zs) : AllI E ls zs := by rwa [List.take_length] at h
/-- What the reference reads of a word: all but the last byte, where it is not the last word. -/
def twE (n k : Nat) (p : List UInt8) : Option Int := rdO (if k + 1 < n then p.dropLast else p)
theorem Gd.words {s : ByteArray} {zs : List Int} (h : Gd s zs) : AllI (twE zs.length) (wdL (inL zs)) zs := by
  rw [wd_in h.ne]
  refine ⟨(tpS_len zs 59).symm, fun j p hp => ?_⟩
  obtain ⟨z, h1, h2, _⟩ := tpS_get zs 59 j p hp
  unfold twE rdO
  rw [h2, if_pos (h.rd z (List.mem_of_getElem? h1)), val_itoa, h1]
theorem Gd.pieces {s : ByteArray} {zs : List Int} (h : Gd s zs) : AllI (fun _ => rdO) (pcL (inL zs)) zs := by
  rw [pcL_in h.ne]
  refine ⟨by simp, fun j p hp => ?_⟩
  rw [List.getElem?_map] at hp
  cases hz : zs[j]? with
  | none => rw [hz] at hp; cases hp
  | some z =>
    rw [hz] at hp
    injection hp with hp
    show rdO p = some z
    unfold rdO
    rw [← hp, if_pos (h.rd z (List.mem_of_getElem? hz)), val_itoa]
/-- The first byte, the last byte, and what lies between. -/
theorem Gd.ends {s : ByteArray} {zs : List Int} (h : Gd s zs) : 3 ≤ s.data.toList.length ∧ s.data.toList[0]? = some 91 ∧ s.data.toList[s.data.toList.length - 1]? = some 93 ∧ (s.data.toList.drop 1).take (s.data.toList.length - 2) = inL zs := by
  have hi : inL zs ≠ [] := by
    match zs, h.ne with
    | z :: r, _ => intro e; exact itoa_ne z (List.append_eq_nil_iff.1 e).1
  have hl : 1 ≤ (inL zs).length := by
    match inL zs, hi with
    | _ :: _, _ => simp
  have hd := h.data
  rw [hd]
  refine ⟨by simp; omega, rfl, ?_, ?_⟩
  · have : (91 :: inL zs ++ [93]).length - 1 = (91 :: inL zs).length := by simp
    rw [this, List.getElem?_append_right (Nat.le_refl _), Nat.sub_self]; rfl
  · have : (91 :: inL zs ++ [93]).length - 2 = (inL zs).length := by simp
    rw [this]
    show List.take _ (inL zs ++ [93]) = _
    exact List.take_left
theorem splitK_le (sep : List UInt8) : ∀ (k : Nat) (l : List UInt8), ∀ p ∈ splitK sep 0 k l, p.length ≤ l.length
  | 0, l, p, h => by
    rw [splitK, List.mem_singleton] at h
    rw [h]; exact Nat.le_refl _
  | k + 1, l, p, h => by
    rw [splitK] at h
    split at h
    · rw [List.mem_singleton] at h; rw [h]; exact Nat.le_refl _
    · rcases List.mem_cons.1 h with h | h
      · rw [h, List.length_take]; omega
      · have := splitK_le sep k _ p h
        rw [List.length_drop] at this; omega
theorem splitK_len (sep : List UInt8) (h1 : 1 ≤ sep.length) : ∀ (k : Nat) (l : List UInt8), (splitK sep 0 k l).length ≤ l.length + 1
  | 0, l => by rw [splitK]; simp
  | k + 1, l => by
    rw [splitK]
    split
    · simp
    · next hi =>
      have := splitK_len sep h1 k (l.drop ((index l sep).toNat + sep.length))
      rw [List.length_drop] at this
      rw [List.length_cons]
      have hle : (index l sep).toNat + sep.length ≤ l.length := by
        have h0 := index_ge l sep
        rw [beq_iff_eq] at hi
        have h2 := index_room l sep (by omega)
        omega
      omega
end Go.Proofs.YtnikogholldcmaaDoor
