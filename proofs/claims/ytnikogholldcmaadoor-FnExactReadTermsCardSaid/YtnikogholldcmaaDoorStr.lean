/-
  Rows of texts: comparison of equal rows, marks.
  No condition.
-/
import Derived.Test.YtnikogholldcmaaDoorProg
import Derived.Test.YtnikogholldcmaaDoorMem
import Derived.Test.YtnikogholldcmaaDoorBasic
import Derived.Test.YtnikogholldcmaaDoorMarks
import Derived.Test.YtnikogholldcmaaDoorOwn
import Derived.Test.YtnikogholldcmaaDoorNumM
import Derived.Test.YtnikogholldcmaaDoorDec
import Derived.Test.YtnikogholldcmaaDoorFtx
import Derived.Test.YtnikogholldcmaaDoorRdd
import Derived.Test.YtnikogholldcmaaDoorRds
import Derived.Test.YtnikogholldcmaaDoorTtx
import Derived.Test.YtnikogholldcmaaDoorSpl
import Derived.Handy
import Derived.BigQuiet
import Derived.RegionTactic
import Derived.BigRegion
import Derived.Deep.QuietTactic
import Derived.Deep.RegionHeld3
import Derived.Deep.DrawnRows
import Derived.Deep.AppendLies
namespace Go.Proofs.YtnikogholldcmaaDoor
open Go.RowKit
set_option linter.unusedVariables false
set_option linter.unusedSimpArgs false
attribute [local go_sem ↓] Go.wp_at_zero Go.wp_at_succ

/-- A row of texts that can be read. -/
def TRow (w : World) (A : Option Addr) (n : Nat) (ts : List ByteArray) : Prop := ts.length = n ∧ n ≤ 1048577 ∧ Rd w A (ts.map Value.string)
theorem TRow.at_ {w : World} {A : Option Addr} {n : Nat} {ts : List ByteArray} {k : Nat} (h : TRow w A n ts) (hk : k < n) : ∃ ad t, A = some ad ∧ ts[k]? = some t ∧ w.cell? (ad.add k) = some (.string t) := by
  have hl : k < ts.length := by rw [h.1]; exact hk
  have hz : ts[k]? = some ts[k] := List.getElem?_eq_getElem hl
  obtain ⟨ad, e, hc⟩ := h.2.2 k (.string ts[k]) (by simp [hz])
  exact ⟨ad, _, e, hz, hc⟩
theorem TRow.below {w w' : World} {A : Option Addr} {n : Nat} {ts : List ByteArray} (h : TRow w A n ts) (hb : Below w.heap.size w w') : TRow w' A n ts := ⟨h.1, h.2.1, h.2.2.below hb⟩
theorem TRow.of_own {w : World} {A : Option Addr} {n base e c : Nat} {ts : List ByteArray} (h : w.ownsRow base e 1 (.slice A n c) n (ts.map Value.string)) (hn : n ≤ 1048577) : TRow w A n ts :=
  ⟨by have := h.1; simpa using this, hn, Rd.of_own h⟩
theorem grown_below {w w' w2 : World} {row : Option Nat} (h : w.grownBy w' row) (hb : Below w'.heap.size w' w2) : w.grownBy w2 row :=
  grown_trans h ⟨hb.os, hb.tape, hb.output, hb.size, fun i hi _ => hb.block i hi⟩
/-- The text of a mark. -/
def mtS (k : Int) : ByteArray := ⟨(109 :: digsU k.natAbs).toArray⟩
def mkT (k : Int) (n : Nat) : List ByteArray := (List.range n).map fun j : Nat => mtS (k + (j : Int))
theorem mkT_len (k : Int) (n : Nat) : (mkT k n).length = n := by unfold mkT; simp
theorem mkT_get (k : Int) (n j : Nat) (h : j < n) : (mkT k n)[j]? = some (mtS (k + (j : Int))) := by unfold mkT; rw [List.getElem?_map, List.getElem?_range h]; rfl
theorem eqStringS_same (A : Option Addr) (n cap : Nat) (A' : Option Addr) (cap' : Nat) (zs : List ByteArray) (w : World) (h : TRow w A n zs) (h' : TRow w A' n zs) :
    Calls Tryd.prog 25 #[.slice A n cap, .slice A' n cap'] w fun e w' => e = .returned (.bool true) ∧ Below w.heap.size w w' := by
  have hbd := h.2.1
  have hw := Lib.hid h; clear h
  have hw' := Lib.hid h'; clear h'
  go_enter Tryd.func25, Tryd.ntmps25
  go_wp2
  go_loopw [5] (fun i wr => ∃ k : Nat, k ≤ n ∧ i = .int .i64 k ∧ Below w.heap.size w wr) (fun i _ => n - (intOf i).toNat)
  case atStart => exact ⟨0, Nat.zero_le _, rfl, Below.refl _ _⟩
  case round =>
    obtain ⟨k, hk, rfl, hb⟩ := hrel
    by_cases hlt : k < n
    · obtain ⟨ad, z, rfl, hz, hc⟩ := (hw.out.below hb).at_ hlt
      obtain ⟨ad', z', rfl, hz', hc'⟩ := (hw'.out.below hb).at_ hlt
      rw [hz] at hz'; injection hz' with hz'; subst hz'
      have HZ := Lib.hid hz; clear hz
      have hb0 : (0 : Int) ≤ (k : Int) := by omega
      have hb1 : (k : Int) < (n : Int) := by omega
      have hee : (z.toList == z.toList) = true := beq_self_eq_true _
      go_wp2
      go_quiet (fail)
      go_wp2
      go_roundw
      case rel => exact ⟨k + 1, by omega, by go_num, hb.trans ⟨rfl, rfl, rfl, Nat.le_refl _, fun _ _ => rfl⟩⟩
      case measure => simp [intOf]; omega
    · obtain rfl : n = k := by omega
      go_wp2
      go_ret
      exact ⟨rfl, hb⟩
set_option maxRecDepth 100000 in
set_option maxHeartbeats 3200000 in
theorem markText_any (k0 : Int) (w : World) (h1 : 1 ≤ k0) (h2 : k0 ≤ 4398046511104) :
    Calls Tryd.prog 69 #[.int .i64 k0] w fun e w' => e = .returned (.string (mtS k0)) ∧ Below w.heap.size w w' := by
  have hlen : (digsU k0.natAbs).length ≤ 20 := digsU_len 20 _ (by have : (10 : Nat) ^ 20 = 100000000000000000000 := by decide
                                                                  omega)
  have HLen := Lib.hid hlen
  clear hlen
  go_enter Tryd.func69, Tryd.ntmps69
  go_wp2_with fail
  go_loopw [0, 3] (fun i o wr => ∃ (k : Int) (t : ByteArray), i = .int .i64 k ∧ o = .string t ∧ 0 ≤ k ∧ k ≤ 4398046511104 ∧ Hid (digsU k0.natAbs = digsU k.natAbs ++ t.data.toList) ∧ Below w.heap.size w wr) (fun i _ _ => (intOf i).natAbs)
  case atStart => exact ⟨k0, _, rfl, rfl, by omega, h2, by show digsU k0.natAbs = digsU k0.natAbs ++ _; rw [show (ByteArray.mk #[]).data.toList = [] from rfl, List.append_nil], Below.refl _ _⟩
  case round =>
    obtain ⟨k, t, rfl, rfl, hk0, hk1, HE, hbel⟩ := hrel
    have ht20 : t.size ≤ 20 := by have h := HLen.out; rw [HE.out, List.length_append, len_size] at h; omega
    by_cases hk : k = 0
    · subst hk
      have he : digsU k0.natAbs = t.data.toList := by have h := HE.out; rwa [show (0 : Int).natAbs = 0 from rfl, digsU_zero, List.nil_append] at h
      have HEt := Lib.hid he
      have HB := Lib.hid hbel
      clear he hbel HE
      go_wp2_with fail
      go_ret
      exact ⟨ret_str (str_ext (by rw [data_app]; unfold mtS; rw [data_mk, HEt.out]; rfl)), HB.out⟩
    · have e1 : (k / 10).natAbs = k.natAbs / 10 := by omega
      have e2 : (k % 10).natAbs = k.natAbs % 10 := by omega
      have hdg : digsU k.natAbs = digsU (k / 10).natAbs ++ [UInt8.ofNat (48 + (k % 10).natAbs)] := by rw [digsU_pos (by omega), e1, e2]
      have HE' := Lib.hid (show digsU k0.natAbs = digsU (k / 10).natAbs ++ (UInt8.ofNat (48 + (k % 10).natAbs) :: t.data.toList) by rw [HE.out, hdg, List.append_assoc]; rfl)
      have hkp : 0 < k := by omega
      obtain ⟨b, hb⟩ : ∃ b, b = UInt8.ofNat (48 + (k % 10).natAbs) := ⟨_, rfl⟩
      have hbn : (48 + k % 10 : Int) = ((b.toNat : Nat) : Int) := by rw [hb, u8_dig _ (by omega)]; omega
      rw [← hb] at HE'
      have hcv := run_convert_bytes_back (P := Tryd.prog) (wr.alloc (.cells #[.int .u8 (48 + k % 10)] 5)) 55 9 5 ⟨wr.heap.size, 0, none⟩ 1 [b] Tryd.underlying55 Tryd.underlying5 Tryd.underlying9 (fun j hj => by
        obtain rfl : j = 0 := by simp at hj; omega
        rw [addr_zero, hbn]
        exact newcellA rfl rfl)
      rw [show [b].length = 1 from rfl] at hcv
      have hsb : (⟨[b].toArray⟩ : ByteArray).size = 1 := rfl
      have hd : (⟨[b].toArray⟩ : ByteArray).data.toList = [b] := rfl
      generalize (⟨[b].toArray⟩ : ByteArray) = B at hcv hsb hd
      have HD := Lib.hid hd
      have HB := Lib.hid hbel
      have hwr : w.heap.size ≤ wr.heap.size := hbel.size
      have hq0 : 0 ≤ k / 10 := by omega
      have hq1 : k / 10 < k := by omega
      clear hb hbn hdg e1 e2 hbel HE hd hk
      go_wp2_with fail
      go_roundw
      case rel => exact ⟨k / 10, _, by go_num, rfl, hq0, by omega, by show _ = _; rw [data_app, HD.out, HE'.out]; rfl, HB.out.alloc hwr _⟩
      case measure => show (k / 10).natAbs < k.natAbs; omega
set_option maxHeartbeats 1000000 in
theorem markT_any (A : Option Addr) (n cap : Nat) (base : Nat) (xs : List Value) (k0 : Int) (w : World) (h : w.ownsRow base 9 1 (.slice A n cap) n xs) (h0 : 1 ≤ k0) (h1 : k0 ≤ 1099511627776) (hn : n ≤ 1099511627776) :
    Calls Tryd.prog 26 #[.slice A n cap, .int .i64 k0] w fun e w' => e = .returned (.int .i64 (k0 + n)) ∧ w'.ownsRow base 9 1 (.slice A n cap) n ((mkT k0 n).map Value.string) ∧ w.grownBy w' (Value.slice A n cap).ownBlock := by
  have hxl : xs.length = n := own_len1 h
  rcases Nat.eq_zero_or_pos n with hz | hp
  · subst hz
    have hxs : xs = [] := List.eq_nil_of_length_eq_zero hxl
    subst hxs
    have hw := Lib.hid h; clear h hxl
    go_enter Tryd.func26, Tryd.ntmps26
    go_wp2
    go_loopw [1, 5] (fun k i wr => k = .int .i64 k0 ∧ i = .int .i64 0 ∧ wr = w) (fun _ _ _ => 0)
    case atStart => exact ⟨rfl, rfl, rfl⟩
    case round =>
      obtain ⟨rfl, rfl, rfl⟩ := hrel
      go_wp2
      go_ret
      exact ⟨ret_int (by omega), hw.out, World.grownBy.refl _ _⟩
  · obtain ⟨g, rfl, hbg, _⟩ := own_some h hp
    have hw := Lib.hid h
    have hl : ((mkT k0 n).map Value.string).length = xs.length := by rw [List.length_map, mkT_len, hxl]
    have HL := Lib.hid hl
    have HX := Lib.hid hxl
    clear h hxl hl
    go_enter Tryd.func26, Tryd.ntmps26
    go_wp2
    go_loopw [1, 5] (fun k i wr => ∃ j : Nat, j ≤ n ∧ i = .int .i64 j ∧ k = .int .i64 (k0 + j) ∧ wr.ownsRow base 9 1 (.slice (some ⟨g, 0, none⟩) n cap) n (((mkT k0 n).map Value.string).take j ++ xs.drop j) ∧ w.grownBy wr (some g)) (fun _ i _ => n - (intOf i).toNat)
    case atStart => exact ⟨0, Nat.zero_le _, rfl, by go_num, by simpa using hw.out, World.grownBy.refl _ _⟩
    case round =>
      obtain ⟨j, hj, rfl, rfl, hr0, hg0⟩ := hrel
      by_cases hlt : j < n
      · have HR0 := Lib.hid hr0
        have HG0 := Lib.hid hg0
        clear hr0 hg0
        go_wp2_with fail
        refine (markText_any (k0 + j) wr (by omega) (by omega)).mono ?_
        rintro e w2 ⟨rfl, hb2⟩
        have hr := own_below HR0.out hb2
        have hg := grown_below HG0.out hb2
        have hf := hr.frozenAt j
        obtain ⟨old, hold⟩ : ∃ old, xs[j]? = some old := ⟨_, List.getElem?_eq_getElem (by rw [HX.out]; exact hlt)⟩
        have hco : w2.cell? ⟨g, j, none⟩ = some old := by
          rw [hr.cellAt j (by omega), mix_get _ _ j j HL.out (Nat.le_refl _) (by rw [HL.out, HX.out]; omega)]; exact hold
        have hst := hr.stored j (.string (mtS (k0 + j)))
        have hmk : ((mkT k0 n).map Value.string)[j]? = some (.string (mtS (k0 + (j : Int)))) := by rw [List.getElem?_map, mkT_get k0 n j hlt]; rfl
        have hst1 := hst.1
        rw [set_step _ _ j _ HL.out hmk] at hst1
        have HS := Lib.hid hst1
        have HG := Lib.hid (grown_trans hg hst.2)
        clear hst hst1 hmk hold hr hg hb2
        go_wp2_with fail
        go_roundw
        case rel => exact ⟨j + 1, by omega, by go_num, by go_num, HS.out, HG.out⟩
        case measure => simp [intOf]; omega
      · obtain rfl : n = j := by omega
        have HR0 := Lib.hid hr0
        have HG0 := Lib.hid hg0
        clear hr0 hg0
        go_wp2_with fail
        go_ret
        refine ⟨rfl, ?_, HG0.out⟩
        have := HR0.out
        rwa [List.take_of_length_le (by rw [HL.out, HX.out]; exact Nat.le_refl _), List.drop_of_length_le (by rw [HX.out]; exact Nat.le_refl _), List.append_nil] at this
section
variable {w W w1 : World} {a : Addr} {t : ByteArray}
theorem hs_keep (h : W.cell? a = some (.string t) ∧ a.block < W.heap.size ∧ Below w.heap.size w W) (hb : Below W.heap.size W w1) : w1.cell? a = some (.string t) ∧ a.block < w1.heap.size ∧ Below w.heap.size w w1 :=
  ⟨(hb.cell h.2.1).trans h.1, Nat.lt_of_lt_of_le h.2.1 hb.size, h.2.2.trans (hb.mono h.2.2.size)⟩
theorem hs_drew (h : W.cell? a = some (.string t) ∧ a.block < W.heap.size ∧ Below w.heap.size w W) : W.drew.cell? a = some (.string t) ∧ a.block < W.drew.heap.size ∧ Below w.heap.size w W.drew := ⟨h.1, h.2.1, h.2.2.drew⟩
end
set_option maxHeartbeats 1000000 in
theorem heldT_any (A : Option Addr) (n cap : Nat) (k0 : Int) (w : World) (h : TRow w A n (mkT k0 n)) (h0 : 1 ≤ k0) (h1 : k0 ≤ 1099511627776) (hn : n ≤ 1099511627776) :
    Calls Tryd.prog 27 #[.slice A n cap, .int .i64 k0] w fun e w' => e = .returned (.int .i64 (k0 + n)) ∧ Below w.heap.size w w' := by
  have hw := Lib.hid h; clear h
  go_enter Tryd.func27, Tryd.ntmps27
  go_wp2
  go_loopw [1, 5] (fun k i wr => ∃ j : Nat, j ≤ n ∧ i = .int .i64 j ∧ k = .int .i64 (k0 + j) ∧ Below w.heap.size w wr) (fun _ i _ => n - (intOf i).toNat)
  case atStart => exact ⟨0, Nat.zero_le _, rfl, by go_num, Below.refl _ _⟩
  case round =>
    obtain ⟨j, hj, rfl, rfl, hbel⟩ := hrel
    by_cases hlt : j < n
    · obtain ⟨ad, z, rfl, hz, hc⟩ := (hw.out.below hbel).at_ hlt
      rw [mkT_get k0 n j hlt] at hz
      injection hz with hz
      subst hz
      have hee : (mtS (k0 + (j : Int))).toList == (mtS (k0 + (j : Int))).toList := beq_self_eq_true _
      have hS : wr.cell? (ad.add j) = some (.string (mtS (k0 + j))) ∧ (ad.add j).block < wr.heap.size ∧ Below w.heap.size w wr := ⟨hc, World.block_lt_of_cell? wr _ hc, hbel⟩
      have HM := Lib.hid (fun W => markText_any (k0 + j) W (by omega) (by omega))
      have hb0 : (0 : Int) ≤ (j : Int) := by omega
      have hb1 : (j : Int) < (n : Int) := by omega
      go_wp2_with fail
      go_region_held3 (fun w' => w'.cell? (ad.add j) = some (.string (mtS (k0 + j))) ∧ (ad.add j).block < w'.heap.size ∧ Below w.heap.size w w')
        (first | exact hs_keep (by assumption) hb | exact hs_drew (by assumption) | exact hs_keep (hs_drew hS) hb | exact hs_drew hS)
        (first | (go_at_call 69; refine (HM.out _).mono ?_; rintro e w2 ⟨rfl, hb⟩))
      go_wp2_with fail
      go_roundw
      case rel => exact ⟨j + 1, by omega, by go_num, by go_num, (by assumption : _ ∧ _ ∧ Below w.heap.size w _).2.2⟩
      case measure => simp [intOf]; omega
    · obtain rfl : n = j := by omega
      go_wp2_with fail
      go_ret
      exact ⟨rfl, hbel⟩
end Go.Proofs.YtnikogholldcmaaDoor
