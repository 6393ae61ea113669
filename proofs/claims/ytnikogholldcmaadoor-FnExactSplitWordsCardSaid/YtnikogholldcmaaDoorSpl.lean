/-
  Texts cut at a byte in the reference; lists of texts: contracts.
  No condition but that the texts are not longer than 1048576.
-/
import Derived.Test.YtnikogholldcmaaDoorProg
import Derived.Test.YtnikogholldcmaaDoorShelf
import Derived.Test.YtnikogholldcmaaDoorMem
import Derived.Test.YtnikogholldcmaaDoorBasic
import Derived.Test.YtnikogholldcmaaDoorMarks
import Derived.Test.YtnikogholldcmaaDoorOwn
import Derived.Test.YtnikogholldcmaaDoorDec
import Derived.Test.YtnikogholldcmaaDoorRdd
import Derived.Test.YtnikogholldcmaaDoorRds
import Derived.Test.YtnikogholldcmaaDoorTtx
import Derived.Test.YtnikogholldcmaaDoorSplM
import Derived.Handy
import Derived.BigQuiet
import Derived.Deep.QuietTactic
import Derived.Deep.AppendLies
namespace Go.Proofs.YtnikogholldcmaaDoor
open Go.RowKit
set_option linter.unusedVariables false
set_option linter.unusedSimpArgs false
attribute [local go_sem ↓] Go.wp_at_zero Go.wp_at_succ

/-- The library's variable MaxLen holds a number. -/
def Mx (w : World) : Prop := ∃ m, w.cell? ⟨0, 0, none⟩ = some (.int .i64 m)
theorem Mx.below {w w' : World} (h : Mx w) (hb : Below w.heap.size w w') : Mx w' := by
  obtain ⟨m, hm⟩ := h
  exact ⟨m, (hb.cell (p := ⟨0, 0, none⟩) (World.block_lt_of_cell? w _ hm)).trans hm⟩
theorem mx {w : World} (h : w.ShapedOpen Tryd.prog) : Mx w := Tryd.laysM138.s1_3 w h
/-- A list of texts, the call's own. -/
def RetT (base : Nat) (ls : List (List UInt8)) (e : Ending) (w : World) : Prop :=
  ∃ (A : Option Addr) (c : Nat) (ts : List ByteArray), e = .returned (.slice A ls.length c) ∧ w.ownsRow base 9 1 (.slice A ls.length c) ls.length (ts.map Value.string) ∧ ts.map (fun t : ByteArray => t.data.toList) = ls
theorem own_lenT {w : World} {base e n : Nat} {v : Value} {ts : List ByteArray} (h : w.ownsRow base e 1 v n (ts.map Value.string)) : ts.length = n := by have := h.1; simpa using this
theorem own_cellT {w : World} {base e n c g : Nat} {ts : List ByteArray} {k : Nat} {t : ByteArray} (h : w.ownsRow base e 1 (.slice (some ⟨g, 0, none⟩) n c) n (ts.map Value.string)) (ht : ts[k]? = some t) : w.cell? ⟨g, k, none⟩ = some (.string t) := by
  have hl := own_lenT h
  have hk : k < n := by
    rcases Nat.lt_or_ge k ts.length with h' | h'
    · omega
    · rw [List.getElem?_eq_none h'] at ht; cases ht
  rw [h.cellAt k (by omega), List.getElem?_map, ht]; rfl
theorem ext_mid (s : ByteArray) (f i : Nat) : (s.extract f i).data.toList = (s.data.toList.take i).drop f := by
  simp [List.drop_take]
theorem ext_end (s : ByteArray) (f : Nat) : (s.extract f s.size).data.toList = s.data.toList.drop f := by
  rw [ext_mid, List.take_of_length_le (by rw [len_size]; exact Nat.le_refl _)]
set_option maxRecDepth 100000 in
set_option maxHeartbeats 3200000 in
theorem l01Split_any (s : ByteArray) (c : UInt8) (w : World) (hs : s.size ≤ 1048576) :
    Calls Tryd.prog 68 #[.string s, .int .u8 (c.toNat : Nat)] w fun e w' => RetT w.heap.size (splL c s.data.toList) e w' ∧ Below w.heap.size w w' := by
  obtain ⟨i0, hi, hz0, hz1, hz2⟩ := info_parts info_str
  have HO0 := Lib.hid (World.ownsRow_made (e := 9) (size := 1) w #[] 0 (Nat.le_refl _) (by decide) rfl)
  go_enter Tryd.func68, Tryd.ntmps68
  go_wp2_with fail
  go_loopw [5, 6, 7] (fun l fr i wr => ∃ (k f m cp g : Nat) (ts : List ByteArray), l = .slice (some ⟨g, 0, none⟩) m cp ∧ fr = .int .i64 f ∧ i = .int .i64 k ∧ f ≤ k ∧ k ≤ s.size ∧ m ≤ k ∧
    wr.ownsRow w.heap.size 9 1 (.slice (some ⟨g, 0, none⟩) m cp) m (ts.map Value.string) ∧ Hid (SpAt c s.data.toList k f (ts.map (fun t : ByteArray => t.data.toList))) ∧ Below w.heap.size w wr) (fun _ _ i _ => s.size - (intOf i).toNat)
  case atStart => exact ⟨0, 0, 0, 0, _, [], rfl, rfl, rfl, Nat.le_refl _, Nat.zero_le _, Nat.le_refl _, by have := HO0.out; simpa using this, SpAt.start _ _, (Below.refl _ _).alloc (Nat.le_refl _) _⟩
  case round =>
    obtain ⟨k, f, m, cp, g, ts, rfl, rfl, rfl, hfk, hks, hmk, hown, HE, hbel⟩ := hrel
    have HO := Lib.hid hown
    have HB := Lib.hid hbel
    have hwr : w.heap.size ≤ wr.heap.size := hbel.size
    have HLF := Lib.hid hown.lt
    clear hown hbel
    by_cases hlt : k < s.size
    · have hgk : s.data.toList[k]? = some s[k] := Lib.data_getElem? s k hlt
      by_cases hc : s[k] = c
      · have hcb : ((s[k].toNat : Int) == (c.toNat : Int)) = true := by rw [hc]; exact beq_self_eq_true _
        have HE' := Lib.hid (HE.out.hit (by rw [hgk, hc]))
        clear hgk hc
        go_wp2_with (first | (at_builtin; refine wpList_append_lies _ rfl (.tmp 20) (.tmp 25) 36 rfl w.heap.size 9 i0 (.string ByteArray.empty) 1 16 Tryd.underlying36 hi hz0 hz1 hz2 rfl (by decide) _ m (ts.map Value.string) (by rfl) (HO.out.alloc _) ⟨wr.heap.size, 0, none⟩ 1 1 [.string (s.extract f k)] (by rfl) rfl (fun j u hu => newcell (by simp) hu) (by simp [Value.oneCell']) (by decide) (by show m + 1 ≤ 9223372036854775807; omega) (by omega) (by simp; omega) (wr.heap.size + 1) (by simp) ?_; intro g' cap1 wn hown1 hgrow hat hlt1))
        go_roundw
        case rel =>
          refine ⟨k + 1, k + 1, m + 1, cap1, g', ts ++ [s.extract f k], rfl, by go_num, by go_num, Nat.le_refl _, by omega, by omega, by rw [List.map_append]; exact hown1, ?_, ?_⟩
          · show SpAt _ _ _ _ _
            rw [List.map_append, List.map_cons, List.map_nil, ext_mid]
            exact HE'.out
          · exact (HB.out.alloc hwr _).grown hgrow (by simp; omega) (fun j hj => (HLF.out j hj).1)
        case measure => simp [intOf] <;> omega
      · have hcb : ((s[k].toNat : Int) == (c.toNat : Int)) = false := by
          rw [beq_eq_false_iff_ne]
          intro e
          exact hc (Lib.byte_eq_of_toNat e)
        have HE' := Lib.hid (HE.out.miss hgk hc hfk)
        clear hgk hc
        go_wp2_with fail
        go_roundw
        case rel => exact ⟨k + 1, f, m, cp, g, ts, rfl, rfl, by go_num, by omega, by omega, by omega, HO.out, HE'.out, HB.out⟩
        case measure => simp [intOf] <;> omega
    · have hks2 : s.size ≤ k := by omega
      have HE' := Lib.hid (HE.out.done (by rw [len_size]; exact hks2))
      clear hlt
      go_wp2_with (first | (at_builtin; refine wpList_append_lies _ rfl (.tmp 29) (.tmp 33) 36 rfl w.heap.size 9 i0 (.string ByteArray.empty) 1 16 Tryd.underlying36 hi hz0 hz1 hz2 rfl (by decide) _ m (ts.map Value.string) (by rfl) (HO.out.alloc _) ⟨wr.heap.size, 0, none⟩ 1 1 [.string (s.extract f s.size)] (by rfl) rfl (fun j u hu => newcell (by simp) hu) (by simp [Value.oneCell']) (by decide) (by show m + 1 ≤ 9223372036854775807; omega) (by omega) (by simp; omega) (wr.heap.size + 1) (by simp) ?_; intro g' cap1 wn hown1 hgrow hat hlt1))
      go_ret
      have hl : (splL c s.data.toList).length = m + 1 := by rw [HE'.out, List.length_append, List.length_map, own_lenT HO.out]; rfl
      refine ⟨⟨some ⟨g', 0, none⟩, cap1, ts ++ [s.extract f s.size], by rw [hl]; rfl, ?_, ?_⟩, ?_⟩
      · rw [hl, List.map_append]; exact hown1
      · rw [HE'.out, List.map_append, List.map_cons, List.map_nil, ext_end]
      · exact (HB.out.alloc hwr _).grown hgrow (by simp; omega) (fun j hj => (HLF.out j hj).1)
end Go.Proofs.YtnikogholldcmaaDoor
