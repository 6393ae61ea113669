/-
  The words of a text: contracts of the program's and of the reference's functions.
  The library's variable MaxLen holds a number.
-/
import Derived.Test.YtnikogholldcmaaDoorProg
import Derived.Test.YtnikogholldcmaaDoorShelf
import Derived.Test.YtnikogholldcmaaDoorMem
import Derived.Test.YtnikogholldcmaaDoorBasic
import Derived.Test.YtnikogholldcmaaDoorMarks
import Derived.Test.YtnikogholldcmaaDoorOwn
import Derived.Test.YtnikogholldcmaaDoorDec
import Derived.Test.YtnikogholldcmaaDoorRdd
import Derived.Test.YtnikogholldcmaaDoorRds
import Derived.Test.YtnikogholldcmaaDoorTtx
import Derived.Test.YtnikogholldcmaaDoorSplM
import Derived.Test.YtnikogholldcmaaDoorSpl
import Derived.Test.YtnikogholldcmaaDoorDrT
import Derived.Test.YtnikogholldcmaaDoorExp
import Derived.Handy
import Derived.BigQuiet
import Derived.Deep.QuietTactic
import Derived.Deep.AppendLies
namespace Go.Proofs.YtnikogholldcmaaDoor
open Go.RowKit
set_option linter.unusedVariables false
set_option linter.unusedSimpArgs false
attribute [local go_sem ↓] Go.wp_at_zero Go.wp_at_succ

/-- The words of a text. -/
def wdF (ls : List (List UInt8)) : List (List UInt8) := ls.filter (fun p => decide (p ≠ []))
def wdL (l : List UInt8) : List (List UInt8) := wdF (splL 32 l)
theorem wdF_step {ls : List (List UInt8)} {k : Nat} {p : List UInt8} (h : ls[k]? = some p) : wdF (ls.take (k + 1)) = if p = [] then wdF (ls.take k) else wdF (ls.take k) ++ [p] := by
  unfold wdF
  rw [List.take_add_one, h, List.filter_append]
  by_cases hp : p = [] <;> simp [hp]
theorem wdF_len (ls : List (List UInt8)) : (wdF ls).length ≤ ls.length := List.length_filter_le _ _
theorem splL_len_le (c : UInt8) (l : List UInt8) : (splL c l).length ≤ l.length + 1 := by
  rw [splL_len]; have := List.count_le_length (a := c) (l := l); omega
theorem splitAny (s : ByteArray) (c : UInt8) (w : World) (hs : s.size ≤ 1048576) (hm : Mx w) :
    Calls Tryd.prog 61 #[.string s, .string ⟨#[c]⟩] w fun e w' => ∃ ts : List ByteArray, e = .returned (.slice (some ⟨w.heap.size, 0, none⟩) ts.length ts.length) ∧ ts.map (fun t : ByteArray => t.data.toList) = splL c s.data.toList ∧
      (∀ (k : Nat) t, ts[k]? = some t → w'.cell? ⟨w.heap.size, k, none⟩ = some (.string t)) ∧ Below w.heap.size w w' ∧ w.heap.size < w'.heap.size := by
  obtain ⟨m, hm⟩ := hm
  refine (Tryd.strings_Split s ⟨#[c]⟩ m w (by omega) hm (Nat.le_refl 1)).mono ?_
  rintro e w' ⟨he, hw⟩
  have e1 := splitB_spl c s
  have e2 := countB_spl c s
  generalize Lib.splitB ⟨#[c]⟩ 0 (Lib.countB s ⟨#[c]⟩) s = ts at *
  have e3 : ts.length = Lib.countB s ⟨#[c]⟩ + 1 := by rw [e2, ← e1, List.length_map]
  refine ⟨ts, by rw [e3]; exact he, e1, fun k t ht => ?_, ?_, by rw [hw]; simp⟩
  · rw [hw]
    exact newcellA rfl (by simp [ht])
  · rw [hw]; exact (Below.refl _ _).alloc (Nat.le_refl _) _
set_option maxRecDepth 100000 in
set_option maxHeartbeats 3200000 in
theorem implSpw_any (s : ByteArray) (w : World) (hs : s.size ≤ 1048576) (hm : Mx w) :
    Calls Tryd.prog 24 #[.string s] w fun e w' => RetT w.heap.size (wdL s.data.toList) e w' ∧ Below w.heap.size w w' := by
  obtain ⟨i0, hi, hz0, hz1, hz2⟩ := info_parts info_str
  have HSp := Lib.hid (splitAny s 32 w hs hm)
  have hW : wdL s.data.toList = wdF (splL 32 s.data.toList) := rfl
  have hll := splL_len_le 32 s.data.toList
  rw [len_size] at hll
  generalize splL 32 s.data.toList = ls at *
  have HW := Lib.hid hW
  clear hW hm
  go_enter Tryd.func24, Tryd.ntmps24
  go_wp2_with fail
  refine HSp.out.mono ?_
  rintro e w1 ⟨ts, rfl, hts, hcs, hb1, hg1⟩
  have HT := Lib.hid hts
  have hn : ts.length = ls.length := by rw [← hts, List.length_map]
  have HCs := Lib.hid hcs
  have HB1 := Lib.hid hb1
  have hln : ts.length ≤ 1048577 := by omega
  obtain ⟨n, hnn⟩ : ∃ n, ts.length = n := ⟨_, rfl⟩
  rw [hnn] at hn hln ⊢
  have HN := Lib.hid hnn
  clear hts hcs hb1 hnn hn hll
  go_wp2_with fail
  go_loopw [3, 9] (fun l i wr => ∃ (k m cp : Nat) (B : Option Addr) (us : List ByteArray), k ≤ n ∧ m ≤ k ∧ i = .int .i64 k ∧ l = .slice B m cp ∧ wr.ownsRow w1.heap.size 9 1 (.slice B m cp) m (us.map Value.string) ∧ Hid (us.map (fun t : ByteArray => t.data.toList) = wdF (ls.take k)) ∧ Below w1.heap.size w1 wr) (fun _ i _ => n - (intOf i).toNat)
  case atStart => exact ⟨0, 0, 0, _, [], Nat.zero_le _, Nat.le_refl _, rfl, rfl, World.ownsRow_nil .., rfl, Below.refl _ _⟩
  case round =>
    obtain ⟨k, m, cp, B, us, hkn, hmk, rfl, rfl, hown, HU, hbel⟩ := hrel
    have HO := Lib.hid hown
    have HB := Lib.hid hbel
    have HLF := Lib.hid hown.lt
    have hwr : w1.heap.size ≤ wr.heap.size := hbel.size
    clear hown
    by_cases hlt : k < n
    · obtain ⟨t, ht⟩ : ∃ t, ts[k]? = some t := ⟨ts[k]'(by have := HN.out; omega), List.getElem?_eq_getElem _⟩
      have hc : wr.cell? ⟨w.heap.size, k, none⟩ = some (.string t) := (hbel.cell (p := ⟨w.heap.size, k, none⟩) hg1).trans (HCs.out k t ht)
      have HS := Lib.hid (wdF_step (ls := ls) (k := k) (p := t.data.toList) (by rw [← HT.out, List.getElem?_map, ht]; rfl))
      clear ht hbel
      by_cases hp : t.data.toList = []
      · have he : (t.toList == []) = true := by rw [ByteArray.toList_eq]; exact beq_iff_eq.2 hp
        have HP := Lib.hid hp
        clear hp
        go_wp2_with fail
        go_roundw
        case rel => exact ⟨k + 1, m, cp, B, us, by omega, by omega, by go_num, rfl, HO.out, by show _ = _; rw [HS.out, if_pos HP.out]; exact HU.out, HB.out⟩
        case measure => simp [intOf]; omega
      · have he : (t.toList == []) = false := by rw [ByteArray.toList_eq]; exact beq_eq_false_iff_ne.2 hp
        have HP := Lib.hid hp
        clear hp
        go_wp2_with (first | (at_builtin; refine wpList_append_lies _ rfl (.tmp 15) (.tmp 17) 36 rfl w1.heap.size 9 i0 (.string ByteArray.empty) 1 16 Tryd.underlying36 hi hz0 hz1 hz2 rfl (by decide) _ m (us.map Value.string) (by rfl) (HO.out.alloc _) ⟨wr.heap.size, 0, none⟩ 1 1 [.string t] (by rfl) rfl (fun j u hu => newcell (by simp) hu) (by simp [Value.oneCell']) (by decide) (by show m + 1 ≤ 9223372036854775807; omega) (by omega) (by simp; omega) (wr.heap.size + 1) (by simp) ?_; intro g' cap1 wn hown1 hgrow hat hlt1))
        go_roundw
        case rel => exact ⟨k + 1, m + 1, cap1, _, us ++ [t], by omega, by omega, by go_num, rfl, by rw [List.map_append]; exact hown1, by show _ = _; rw [HS.out, if_neg HP.out, List.map_append, HU.out]; rfl, (HB.out.alloc hwr _).grown hgrow (by simp; omega) (fun j hj => (HLF.out j hj).1)⟩
        case measure => simp [intOf]; omega
    · obtain rfl : n = k := by omega
      clear hlt
      go_wp2_with fail
      go_ret
      have e : us.map (fun t : ByteArray => t.data.toList) = wdL s.data.toList := by rw [HU.out, HW.out, List.take_of_length_le (by rw [← HT.out, List.length_map, HN.out]; exact Nat.le_refl _)]
      have hl : (wdL s.data.toList).length = m := by rw [← e, List.length_map, own_lenT HO.out]
      refine ⟨⟨B, cp, us, by rw [hl]; rfl, ?_, e⟩, HB1.out.trans (HB.out.mono HB1.out.size)⟩
      rw [hl]
      exact own_base HO.out HB1.out.size
set_option maxRecDepth 100000 in
set_option maxHeartbeats 3200000 in
theorem specSpw_any (s : ByteArray) (w : World) (hs : s.size ≤ 1048576) :
    Calls Tryd.prog 23 #[.string s] w fun e w' => RetT w.heap.size (wdL s.data.toList) e w' ∧ Below w.heap.size w w' := by
  obtain ⟨i0, hi, hz0, hz1, hz2⟩ := info_parts info_str
  have HSp := Lib.hid (l01Split_any s 32 w hs)
  have hW : wdL s.data.toList = wdF (splL 32 s.data.toList) := rfl
  have hll := splL_len_le 32 s.data.toList
  have hne := splL_ne 32 s.data.toList
  rw [len_size] at hll
  generalize splL 32 s.data.toList = ls at *
  have HW := Lib.hid hW
  clear hW
  go_enter Tryd.func23, Tryd.ntmps23
  go_wp2_with fail
  refine HSp.out.mono ?_
  rintro e w1 ⟨⟨A, c, ts, rfl, ho, hts⟩, hb1⟩
  obtain ⟨g, rfl, hg1, hg2⟩ := own_some ho (by match ls, hne with | _ :: _, _ => simp)
  have HT := Lib.hid hts
  have hn : ts.length = ls.length := by rw [← hts, List.length_map]
  have HCs := Lib.hid (fun (k : Nat) t ht => own_cellT (k := k) (t := t) ho ht)
  have HB1 := Lib.hid hb1
  have HO0 := Lib.hid (World.ownsRow_made (e := 9) (size := 1) w1 #[] 0 (Nat.le_refl _) (by decide) rfl)
  have hln : ls.length ≤ 1048577 := by omega
  obtain ⟨n, hnn⟩ : ∃ n, ls.length = n := ⟨_, rfl⟩
  rw [hnn] at hn hln ⊢
  have HN := Lib.hid hn
  have hg1 : g < w1.heap.size := hg2
  clear hts hb1 hnn ho hn hll
  go_wp2_with fail
  go_loopw [4, 5] (fun l i wr => ∃ (k m cp : Nat) (B : Option Addr) (us : List ByteArray), k ≤ n ∧ m ≤ k ∧ i = .int .i64 k ∧ l = .slice B m cp ∧ wr.ownsRow w1.heap.size 9 1 (.slice B m cp) m (us.map Value.string) ∧ Hid (us.map (fun t : ByteArray => t.data.toList) = wdF (ls.take k)) ∧ Below w1.heap.size w1 wr) (fun _ i _ => n - (intOf i).toNat)
  case atStart => exact ⟨0, 0, 0, _, [], Nat.zero_le _, Nat.le_refl _, rfl, rfl, by have := HO0.out; simpa using this, rfl, (Below.refl _ _).alloc (Nat.le_refl _) _⟩
  case round =>
    obtain ⟨k, m, cp, B, us, hkn, hmk, rfl, rfl, hown, HU, hbel⟩ := hrel
    have HO := Lib.hid hown
    have HB := Lib.hid hbel
    have HLF := Lib.hid hown.lt
    have hwr : w1.heap.size ≤ wr.heap.size := hbel.size
    clear hown
    by_cases hlt : k < n
    · obtain ⟨t, ht⟩ : ∃ t, ts[k]? = some t := ⟨ts[k]'(by have := HN.out; omega), List.getElem?_eq_getElem _⟩
      have hc : wr.cell? ⟨g, k, none⟩ = some (.string t) := (hbel.cell (p := ⟨g, k, none⟩) hg1).trans (HCs.out k t ht)
      have HS := Lib.hid (wdF_step (ls := ls) (k := k) (p := t.data.toList) (by rw [← HT.out, List.getElem?_map, ht]; rfl))
      clear ht hbel
      by_cases hp : t.data.toList = []
      · have he : (t.toList == []) = true := by rw [ByteArray.toList_eq]; exact beq_iff_eq.2 hp
        have HP := Lib.hid hp
        clear hp
        go_wp2_with fail
        go_roundw
        case rel => exact ⟨k + 1, m, cp, B, us, by omega, by omega, by go_num, rfl, HO.out, by show _ = _; rw [HS.out, if_pos HP.out]; exact HU.out, HB.out⟩
        case measure => simp [intOf]; omega
      · have he : (t.toList == []) = false := by rw [ByteArray.toList_eq]; exact beq_eq_false_iff_ne.2 hp
        have HP := Lib.hid hp
        clear hp
        go_wp2_with (first | (at_builtin; refine wpList_append_lies _ rfl (.tmp 20) (.tmp 25) 36 rfl w1.heap.size 9 i0 (.string ByteArray.empty) 1 16 Tryd.underlying36 hi hz0 hz1 hz2 rfl (by decide) _ m (us.map Value.string) (by rfl) (HO.out.alloc _) ⟨wr.heap.size, 0, none⟩ 1 1 [.string t] (by rfl) rfl (fun j u hu => newcell (by simp) hu) (by simp [Value.oneCell']) (by decide) (by show m + 1 ≤ 9223372036854775807; omega) (by omega) (by simp; omega) (wr.heap.size + 1) (by simp) ?_; intro g' cap1 wn hown1 hgrow hat hlt1))
        go_roundw
        case rel => exact ⟨k + 1, m + 1, cap1, _, us ++ [t], by omega, by omega, by go_num, rfl, by rw [List.map_append]; exact hown1, by show _ = _; rw [HS.out, if_neg HP.out, List.map_append, HU.out]; rfl, (HB.out.alloc hwr _).grown hgrow (by simp; omega) (fun j hj => (HLF.out j hj).1)⟩
        case measure => simp [intOf]; omega
    · obtain rfl : n = k := by omega
      clear hlt
      go_wp2_with fail
      go_ret
      have e : us.map (fun t : ByteArray => t.data.toList) = wdL s.data.toList := by rw [HU.out, HW.out, List.take_of_length_le (by rw [← HT.out, List.length_map, HN.out]; exact Nat.le_refl _)]
      have hl : (wdL s.data.toList).length = m := by rw [← e, List.length_map, own_lenT HO.out]
      refine ⟨⟨B, cp, us, by rw [hl]; rfl, ?_, e⟩, HB1.out.trans (HB.out.mono HB1.out.size)⟩
      rw [hl]
      exact own_base HO.out HB1.out.size
end Go.Proofs.YtnikogholldcmaaDoor
