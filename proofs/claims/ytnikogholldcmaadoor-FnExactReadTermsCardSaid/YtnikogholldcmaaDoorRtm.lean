/-
  Terms read from texts: contracts of the program's and of the reference's functions.
  The table of the powers of ten and the two errors of strconv hold what their initialisers lay; MaxLen holds a number.
-/
import Derived.Test.YtnikogholldcmaaDoorProg
import Derived.Test.YtnikogholldcmaaDoorShelf
import Derived.Test.YtnikogholldcmaaDoorMem
import Derived.Test.YtnikogholldcmaaDoorBasic
import Derived.Test.YtnikogholldcmaaDoorMarks
import Derived.Test.YtnikogholldcmaaDoorInts
import Derived.Test.YtnikogholldcmaaDoorTerms
import Derived.Test.YtnikogholldcmaaDoorOwn
import Derived.Test.YtnikogholldcmaaDoorShort
import Derived.Test.YtnikogholldcmaaDoorDec
import Derived.Test.YtnikogholldcmaaDoorRdd
import Derived.Test.YtnikogholldcmaaDoorRds
import Derived.Test.YtnikogholldcmaaDoorTxtM
import Derived.Test.YtnikogholldcmaaDoorTtx
import Derived.Test.YtnikogholldcmaaDoorSplM
import Derived.Test.YtnikogholldcmaaDoorSpl
import Derived.Test.YtnikogholldcmaaDoorSpw
import Derived.Test.YtnikogholldcmaaDoorStr
import Derived.Test.YtnikogholldcmaaDoorRsgM
import Derived.Test.YtnikogholldcmaaDoorRtmM
import Derived.Test.YtnikogholldcmaaDoorRfr
import Derived.Test.YtnikogholldcmaaDoorRfs
import Derived.Test.YtnikogholldcmaaDoorRsg
import Derived.Test.YtnikogholldcmaaDoorDrT
import Derived.Test.YtnikogholldcmaaDoorExp
import Derived.Handy
import Derived.BigQuiet
import Derived.Deep.QuietTactic
import Derived.Deep.AppendLies
namespace Go.Proofs.YtnikogholldcmaaDoor
open Go.RowKit
set_option linter.unusedVariables false
set_option linter.unusedSimpArgs false
attribute [local go_sem ↓] Go.wp_at_zero Go.wp_at_succ

def ResT (base : Nat) (R : List Int) (b : Bool) (e : Ending) (w : World) : Prop :=
  ∃ A c, e = .returned (.tuple #[.slice A R.length c, .bool b]) ∧ w.ownsRow base 2 1 (.slice A R.length c) R.length (R.map (Value.int .i64))
theorem rdO_rdT (t : ByteArray) : ∃ x ok, rdT t = (x, ok) ∧ rdO t.data.toList = (if ok = true then some x else none) ∧ Rng x := by
  rw [rdT_dd]; unfold rdO
  cases h : rdB t.data.toList
  · exact ⟨0, false, rfl, rfl, by unfold Rng; omega⟩
  · exact ⟨_, true, rfl, rfl, rdB_rng h⟩
theorem AllI.rng {E : Nat → List UInt8 → Option Int} (hE : ∀ j p z, E j p = some z → Rng z) {ls : List (List UInt8)} {zs : List Int} (h : AllI E ls zs) : ∀ z ∈ zs, Rng z := by
  intro z hz
  obtain ⟨j, hj, e⟩ := List.mem_iff_getElem.1 hz
  have hl : j < ls.length := by rw [← h.1]; exact hj
  have := h.2 j ls[j] (List.getElem?_eq_getElem hl)
  rw [List.getElem?_eq_getElem hj, e] at this
  exact hE j _ z this
theorem rdO_rng (p : List UInt8) (z : Int) (h : rdO p = some z) : Rng z := by
  unfold rdO at h
  split at h
  · next hr => injection h with h; subst h; exact rdB_rng hr
  · cases h
theorem twE_rng (n j : Nat) (p : List UInt8) (z : Int) (h : twE n j p = some z) : Rng z := rdO_rng _ z h
theorem set_fill (a : List Int) (n k : Nat) (x : Int) (hl : a.length = k) (hk : k < n) :
    (a.map (Value.int .i64) ++ List.replicate (n - k) (Value.int .i64 0)).set k (.int .i64 x) = (a ++ [x]).map (Value.int .i64) ++ List.replicate (n - (k + 1)) (Value.int .i64 0) := by
  rw [show n - k = (n - (k + 1)) + 1 by omega, List.replicate_succ, List.set_append, if_neg (by rw [List.length_map]; omega), List.length_map, hl, Nat.sub_self]
  simp
set_option maxRecDepth 100000 in
set_option maxHeartbeats 3200000 in
theorem readDecimals_any (A : Option Addr) (n cap : Nat) (ts : List ByteArray) (w : World) (h : TRow w A n ts) (hsz : ∀ t ∈ ts, t.size ≤ 1048576) (h1 : 1 ≤ n) (hn : n ≤ 1048577) (hd : Dr w) (he : Er w) :
    Calls Tryd.prog 60 #[.slice A n cap] w fun e w' => (∃ (us : List Int) (ok : Bool), ResT w.heap.size us ok e w' ∧ (ok = true → AllI (fun _ => rdO) (ts.map fun t : ByteArray => t.data.toList) us) ∧ (ok = false → us = [] ∧ ∀ zs, ¬ AllI (fun _ => rdO) (ts.map fun t : ByteArray => t.data.toList) zs)) ∧ Below w.heap.size w w' := by
  have HLen := Lib.hid h.1
  have HSz := Lib.hid hsz
  obtain ⟨i0, hi, hz0, hz1, hz2⟩ := info_parts info_i64
  have hw := Lib.hid h; clear h hsz
  have HD := Lib.hid hd; clear hd
  have HE := Lib.hid he; clear he
  go_enter Tryd.func60, Tryd.ntmps60
  go_wp2_with (at_make; refine wpList_make_full _ rfl _ _ 22 rfl w.heap.size 2 i0 (.int .i64 0) 1 Tryd.underlying22 hi hz0 hz1 .i64 .i64 n n n rfl rfl rfl rfl ?c1 ?c2 ?c3 ?_)
  case c1 => rw [hz2]; omega
  case c2 => unfold maxLen; omega
  case c3 => exact Nat.le_refl _
  intro w1 hown hg
  have hb1 : Below w.heap.size w w1 := (Below.refl _ _).grown hg (Nat.le_refl _) (fun k hk => by cases hk)
  have hrow : w1.ownsRow w.heap.size 2 1 (.slice (some ⟨w.heap.size, 0, none⟩) n n) n (([] : List Int).map (Value.int .i64) ++ List.replicate (n - 0) (.int .i64 0)) := by
    rw [show ([] : List Int).map (Value.int .i64) ++ List.replicate (n - 0) (Value.int .i64 0) = (madeCells #[Value.int .i64 0] n).toList from by rw [toList_madeCells_one]; simp]
    exact hown
  have HRow := Lib.hid hrow
  have HB1 := Lib.hid hb1
  clear hown hg hi hz0 hz1 hz2 hrow hb1
  go_wp2_with fail
  go_loopw [14] (fun i wr => ∃ (k : Nat) (us : List Int), k ≤ n ∧ i = .int .i64 k ∧ wr.ownsRow w.heap.size 2 1 (.slice (some ⟨w.heap.size, 0, none⟩) n n) n (us.map (Value.int .i64) ++ List.replicate (n - k) (.int .i64 0)) ∧ Hid (AllI (fun _ => rdO) ((ts.map fun t : ByteArray => t.data.toList).take k) us) ∧ Below w.heap.size w wr) (fun i _ => n - (intOf i).toNat)
  case atStart => exact ⟨0, [], Nat.zero_le _, rfl, HRow.out, AllI.start, HB1.out⟩
  case round =>
    obtain ⟨k, us, hk, rfl, hr, HU, hb⟩ := hrel
    by_cases hlt : k < n
    · obtain ⟨ad, t, rfl, hz, hc⟩ := (hw.out.below hb).at_ hlt
      have hts := HSz.out t (List.mem_of_getElem? hz)
      have HP := Lib.hid (show (ts.map fun t : ByteArray => t.data.toList)[k]? = some t.data.toList by rw [List.getElem?_map, hz]; rfl)
      obtain ⟨x, ok, hrd, hx, hxr⟩ := rdO_rdT t
      have HNum := Lib.hid (fun W d e => readDecimal_any t W hts d e)
      rw [hrd] at HNum
      have hul : us.length = k := by rw [HU.out.1, List.length_take, List.length_map, HLen.out]; omega
      have HX := Lib.hid hx
      have HUL := Lib.hid hul
      have HO := Lib.hid hr
      have HB := Lib.hid hb
      clear hz hr hb hrd hx hul
      cases ok
      · have HF := Lib.hid (AllI.not HP.out (E := fun _ => rdO) HX.out)
        go_wp2_with fail
        refine (HNum.out _ (HD.out.below HB.out) (HE.out.below HB.out)).mono ?_
        rintro e w2 ⟨rfl, hb2⟩
        have HB2 := Lib.hid (HB.out.trans (hb2.mono HB.out.size))
        clear hb2 hc
        go_wp2_with fail
        go_ret2
        exact ⟨⟨[], false, ⟨none, 0, rfl, World.ownsRow_nil ..⟩, (fun h => by cases h), fun _ => ⟨rfl, HF.out⟩⟩, HB2.out⟩
      · have HX := Lib.hid (HX.out.trans (if_pos rfl))
        go_wp2_with fail
        refine (HNum.out _ (HD.out.below HB.out) (HE.out.below HB.out)).mono ?_
        rintro e w2 ⟨rfl, hb2⟩
        have hr2 := own_below HO.out hb2
        have hf := hr2.frozenAt k
        have hco : w2.cell? ⟨w.heap.size, k, none⟩ = some (.int .i64 0) := by
          rw [hr2.cellAt k (by omega), List.getElem?_append_right (by rw [List.length_map, HUL.out]; exact Nat.le_refl _), List.length_map, HUL.out, Nat.sub_self, List.getElem?_replicate, if_pos (by omega)]
        have hst := (hr2.stored k (.int .i64 x)).1
        rw [set_fill us n k x HUL.out hlt] at hst
        have hbs : Below w.heap.size w (w2.setCell ⟨w.heap.size, k, none⟩ (.int .i64 x)) := (HB.out.trans (hb2.mono HB.out.size)).setCell (p := ⟨w.heap.size, k, none⟩) (Nat.le_refl _) _
        have HS := Lib.hid hst
        have HBS := Lib.hid hbs
        clear hst hr2 hb2 hbs hc
        go_wp2_with fail
        go_roundw
        case rel => exact ⟨k + 1, us ++ [x], by omega, by go_num, HS.out, HU.out.step HP.out HX.out, HBS.out⟩
        case measure => simp [intOf]; omega
    · obtain rfl : n = k := by omega
      have hA := HU.out
      rw [List.take_of_length_le (by rw [List.length_map, HLen.out]; exact Nat.le_refl _)] at hA
      have hul : us.length = n := by rw [hA.1, List.length_map, HLen.out]
      rw [Nat.sub_self, List.replicate_zero, List.append_nil] at hr
      have HA := Lib.hid hA
      have HO := Lib.hid hr
      have HB := Lib.hid hb
      clear hr hb hA
      subst hul
      go_wp2_with fail
      go_ret2
      exact ⟨⟨us, true, ⟨_, _, rfl, HO.out⟩, fun _ => HA.out, (fun h => by cases h)⟩, HB.out⟩
set_option maxRecDepth 100000 in
set_option maxHeartbeats 3200000 in
theorem specRtm_any (s : ByteArray) (w : World) (hs : s.size ≤ 1048576) (R : List Int) (b : Bool) (hR : TgR s R b) :
    Calls Tryd.prog 13 #[.string s] w fun e w' => ResT w.heap.size R b e w' ∧ Below w.heap.size w w' := by
  have HR := Lib.hid hR
  clear hR
  by_cases h3 : s.size < 3
  · obtain ⟨rfl, rfl⟩ := HR.out.no (fun zs hz => by have := hz.ends.1; rw [len_size] at this; omega)
    go_enter Tryd.func13, Tryd.ntmps13
    go_wp2_with fail
    go_ret2
    exact ⟨⟨none, 0, rfl, World.ownsRow_nil ..⟩, Below.refl _ _⟩
  · have h0 : 0 < s.size := by omega
    have hsz1 : s.size - 1 < s.size := by omega
    have hend : ∀ zs, Gd s zs → s[0] = 91 ∧ s[s.size - 1] = 93 ∧ (s.extract 1 (s.size - 1)).data.toList = inL zs := by
      intro zs hz
      obtain ⟨_, e1, e2, e3⟩ := hz.ends
      rw [len_size] at e2 e3
      refine ⟨?_, ?_, ?_⟩
      · rw [Lib.data_getElem? s 0 h0] at e1; exact Option.some.inj e1
      · rw [Lib.data_getElem? s (s.size - 1) hsz1] at e2; exact Option.some.inj e2
      · rw [ext_mid, List.drop_take, ← e3]; rfl
    have HEnd := Lib.hid hend
    clear hend
    by_cases h91 : s[0] = 91
    · by_cases h93 : s[s.size - 1] = 93
      · have hq1 : (s[0].toNat : Int) = 91 := by rw [h91]; rfl
        have hq2 : (s[s.size - 1].toNat : Int) = 93 := by rw [h93]; rfl
        have hx1 : (1 : Int) ≤ (s.size : Int) - 1 := by omega
        have hx2 : (s.size : Int) - 1 ≤ s.size := by omega
        have hx3 : ((s.size : Int) - 1).toNat = s.size - 1 := by omega
        have hx4 : (0 : Int) ≤ (s.size : Int) - 1 := by omega
        clear h91 h93
        have hmz : (s.extract 1 (s.size - 1)).size ≤ s.size := by rw [← len_size, ext_mid, List.length_drop, List.length_take, len_size]; omega
        have HSp := Lib.hid (specSpw_any (s.extract 1 (s.size - 1)) w (by omega))
        have hgd : ∀ zs, Gd s zs → AllI (twE (wdL (s.extract 1 (s.size - 1)).data.toList).length) (wdL (s.extract 1 (s.size - 1)).data.toList) zs := by
          intro zs hz
          have h1 := hz.words
          rw [← (HEnd.out zs hz).2.2] at h1
          rw [← h1.1]; exact h1
        have hpc : ∀ p ∈ wdL (s.extract 1 (s.size - 1)).data.toList, p ≠ [] ∧ p.length ≤ s.size := by
          intro p hp
          obtain ⟨hp1, hp2⟩ := List.mem_filter.1 hp
          refine ⟨by simpa using hp2, Nat.le_trans (splL_le 32 _ p hp1) ?_⟩
          rw [len_size]; exact hmz
        have hln : (wdL (s.extract 1 (s.size - 1)).data.toList).length ≤ 1048577 := by
          have h1 := wdF_len (splL 32 (s.extract 1 (s.size - 1)).data.toList)
          have h2 := splL_len_le 32 (s.extract 1 (s.size - 1)).data.toList
          rw [len_size] at h2
          show (wdF (splL 32 (s.extract 1 (s.size - 1)).data.toList)).length ≤ _
          omega
        generalize wdL (s.extract 1 (s.size - 1)).data.toList = ls at *
        have HGd := Lib.hid hgd
        have HPc := Lib.hid hpc
        clear hgd hpc hmz HEnd
        obtain ⟨i0, hi, hz0, hz1, hz2⟩ := info_parts info_i64
        go_enter Tryd.func13, Tryd.ntmps13
        go_wp2_with fail
        refine HSp.out.mono ?_
        rintro e w1 ⟨⟨A, c, ts, rfl, ho, hts⟩, hb1⟩
        have HT := Lib.hid hts
        have HB1 := Lib.hid hb1
        have HO0 := Lib.hid (World.ownsRow_made (e := 2) (size := 1) w1 #[] 0 (Nat.le_refl _) (by decide) rfl)
        have hn : ts.length = ls.length := by rw [← hts, List.length_map]
        obtain ⟨n, hnn⟩ : ∃ n, ls.length = n := ⟨_, rfl⟩
        rw [hnn] at hn hln ho ⊢
        have HRw := Lib.hid (TRow.of_own ho hln)
        have HNn := Lib.hid hnn
        have hq1' := hq1
        clear hts hb1 hn hnn ho hx1 hx2 hx3 hx4 hq1 hq2
        go_wp2_with fail
        go_loopw [6, 7] (fun l i wr => ∃ (k cp : Nat) (B : Option Addr) (us : List Int), k ≤ n ∧ i = .int .i64 k ∧ l = .slice B k cp ∧ wr.ownsRow w1.heap.size 2 1 (.slice B k cp) k (us.map (Value.int .i64)) ∧ Hid (AllI (twE n) (ls.take k) us) ∧ Below w1.heap.size w1 wr) (fun _ i _ => n - (intOf i).toNat)
        case atStart => exact ⟨0, 0, _, [], Nat.zero_le _, rfl, rfl, by have := HO0.out; simpa using this, AllI.start, (Below.refl _ _).alloc (Nat.le_refl _) _⟩
        case round =>
          obtain ⟨k, cp, B, us, hkn, rfl, rfl, hown, HU, hbel⟩ := hrel
          have HO := Lib.hid hown
          have HB := Lib.hid hbel
          have HLF := Lib.hid hown.lt
          have hwr : w1.heap.size ≤ wr.heap.size := hbel.size
          clear hown
          by_cases hlt : k < n
          · obtain ⟨ad, t, rfl, ht, hc⟩ := (HRw.out.below hbel).at_ hlt
            have hp : ls[k]? = some t.data.toList := by rw [← HT.out, List.getElem?_map, ht]; rfl
            have hp1 := HPc.out _ (List.mem_of_getElem? hp)
            rw [len_size] at hp1
            have ht0 : 1 ≤ t.size := by
              rcases Nat.eq_zero_or_pos t.size with h | h
              · exact absurd (List.eq_nil_of_length_eq_zero (by rw [len_size]; exact h)) hp1.1
              · exact h
            have htz := hp1.2
            have HP := Lib.hid hp
            clear ht hbel hp hp1
            by_cases hlast : k + 1 < n
            · have hud : (t.extract 0 (t.size - 1)).data.toList = if k + 1 < n then t.data.toList.dropLast else t.data.toList := by
                first
                | (rw [if_neg hlast])
                | (rw [if_pos hlast, ext_mid, List.drop_zero, List.dropLast_eq_take, len_size])
              obtain ⟨x, ok, hrd, hx, hxr⟩ := rdO_rdT (t.extract 0 (t.size - 1))
              rw [hud] at hx
              have hus : (t.extract 0 (t.size - 1)).size ≤ 1048576 := by
                first
                | omega
                | (rw [← len_size, ext_mid, List.length_drop, List.length_take, len_size]; omega)
              have HNum := Lib.hid (fun W => l01Number_any (t.extract 0 (t.size - 1)) W hus)
              rw [hrd] at HNum
              have HX := Lib.hid (show twE n k t.data.toList = if ok = true then some x else none from hx)
              have hy1 : (1 : Int) ≤ (t.size : Int) := by omega
              have hy2 : (t.size : Int) - 1 ≤ t.size := by omega
              have hy3 : ((t.size : Int) - 1).toNat = t.size - 1 := by omega
              have hy4 : (0 : Int) ≤ (t.size : Int) - 1 := by omega
              have hlast' : (k : Int) + 1 < (n : Int) ∨ ¬ ((k : Int) + 1 < (n : Int)) := by omega
              have hl3 : decide ((k : Int) + 1 < (n : Int)) = decide (k + 1 < n) := by congr 1; exact propext (by omega)
              clear hrd hx hus hud hlast'
              cases ok
              · obtain ⟨rfl, rfl⟩ := HR.out.no (fun zs hz => AllI.not (E := twE n) HP.out HX.out zs (by have := HGd.out zs hz; rw [HNn.out] at this; exact this))
                go_wp2_with fail
                refine (HNum.out _).mono ?_
                rintro e w2 ⟨rfl, hb2⟩
                have HB2 := Lib.hid (bel3 HB1.out HB.out hb2)
                clear hb2 hc
                go_wp2_with fail
                go_ret2
                exact ⟨⟨none, 0, rfl, World.ownsRow_nil ..⟩, HB2.out⟩
              · have HX := Lib.hid (HX.out.trans (if_pos rfl))
                go_wp2_with fail
                refine (HNum.out _).mono ?_
                rintro e w2 ⟨rfl, hb2⟩
                have HO3 := Lib.hid (own_below HO.out hb2)
                have HB2 := Lib.hid hb2
                have hw2 : wr.heap.size ≤ w2.heap.size := hb2.size
                clear hb2 hc
                go_wp2_with (first | (at_builtin; refine wpList_append_lies _ rfl (.tmp 60) (.tmp 62) 22 rfl w1.heap.size 2 i0 (.int .i64 0) 1 8 Tryd.underlying22 hi hz0 hz1 hz2 rfl (by decide) _ k (us.map (Value.int .i64)) (by rfl) (HO3.out.alloc _) ⟨w2.heap.size, 0, none⟩ 1 1 [.int .i64 x] (by rfl) rfl (fun j u hu => newcell (by simp) hu) (by simp [Value.oneCell']) (by decide) (by show k + 1 ≤ 9223372036854775807; omega) (by omega) (by simp; omega) (w2.heap.size + 1) (by simp) ?_; intro g' cap1 wn hown1 hgrow hat hlt1))
                go_roundw
                case rel => exact ⟨k + 1, cap1, _, us ++ [x], by omega, by go_num, rfl, by rw [List.map_append]; exact hown1, HU.out.step HP.out HX.out, ((HB.out.trans (HB2.out.mono hwr)).alloc (by omega) _).grown hgrow (by simp; omega) (fun j hj => (HLF.out j hj).1)⟩
                case measure => simp [intOf]; omega
            · have hud : t.data.toList = if k + 1 < n then t.data.toList.dropLast else t.data.toList := by
                first
                | (rw [if_neg hlast])
                | (rw [if_pos hlast, ext_mid, List.drop_zero, List.dropLast_eq_take, len_size])
              obtain ⟨x, ok, hrd, hx, hxr⟩ := rdO_rdT t
              rw [hud] at hx
              have hus : t.size ≤ 1048576 := by
                first
                | omega
                | (rw [← len_size, ext_mid, List.length_drop, List.length_take, len_size]; omega)
              have HNum := Lib.hid (fun W => l01Number_any t W hus)
              rw [hrd] at HNum
              have HX := Lib.hid (show twE n k t.data.toList = if ok = true then some x else none from hx)
              have hy1 : (1 : Int) ≤ (t.size : Int) := by omega
              have hy2 : (t.size : Int) - 1 ≤ t.size := by omega
              have hy3 : ((t.size : Int) - 1).toNat = t.size - 1 := by omega
              have hy4 : (0 : Int) ≤ (t.size : Int) - 1 := by omega
              have hlast' : (k : Int) + 1 < (n : Int) ∨ ¬ ((k : Int) + 1 < (n : Int)) := by omega
              have hl3 : decide ((k : Int) + 1 < (n : Int)) = decide (k + 1 < n) := by congr 1; exact propext (by omega)
              clear hrd hx hus hud hlast'
              cases ok
              · obtain ⟨rfl, rfl⟩ := HR.out.no (fun zs hz => AllI.not (E := twE n) HP.out HX.out zs (by have := HGd.out zs hz; rw [HNn.out] at this; exact this))
                go_wp2_with fail
                refine (HNum.out _).mono ?_
                rintro e w2 ⟨rfl, hb2⟩
                have HB2 := Lib.hid (bel3 HB1.out HB.out hb2)
                clear hb2 hc
                go_wp2_with fail
                go_ret2
                exact ⟨⟨none, 0, rfl, World.ownsRow_nil ..⟩, HB2.out⟩
              · have HX := Lib.hid (HX.out.trans (if_pos rfl))
                go_wp2_with fail
                refine (HNum.out _).mono ?_
                rintro e w2 ⟨rfl, hb2⟩
                have HO3 := Lib.hid (own_below HO.out hb2)
                have HB2 := Lib.hid hb2
                have hw2 : wr.heap.size ≤ w2.heap.size := hb2.size
                clear hb2 hc
                go_wp2_with (first | (at_builtin; refine wpList_append_lies _ rfl (.tmp 60) (.tmp 62) 22 rfl w1.heap.size 2 i0 (.int .i64 0) 1 8 Tryd.underlying22 hi hz0 hz1 hz2 rfl (by decide) _ k (us.map (Value.int .i64)) (by rfl) (HO3.out.alloc _) ⟨w2.heap.size, 0, none⟩ 1 1 [.int .i64 x] (by rfl) rfl (fun j u hu => newcell (by simp) hu) (by simp [Value.oneCell']) (by decide) (by show k + 1 ≤ 9223372036854775807; omega) (by omega) (by simp; omega) (w2.heap.size + 1) (by simp) ?_; intro g' cap1 wn hown1 hgrow hat hlt1))
                go_roundw
                case rel => exact ⟨k + 1, cap1, _, us ++ [x], by omega, by go_num, rfl, by rw [List.map_append]; exact hown1, HU.out.step HP.out HX.out, ((HB.out.trans (HB2.out.mono hwr)).alloc (by omega) _).grown hgrow (by simp; omega) (fun j hj => (HLF.out j hj).1)⟩
                case measure => simp [intOf]; omega
          · obtain rfl : n = k := by omega
            clear hlt
            have hA : AllI (twE n) ls us := by
              have h := HU.out
              have hl := HNn.out
              rw [← hl] at h ⊢; exact h.all
            have hrow := IRow.of_own HO.out (by omega) (hA.rng (twE_rng n))
            have HOk := Lib.hid (l03Ok_any B n cp us wr hrow)
            have hul := own_lenI HO.out
            have huq : ∀ zs, Gd s zs → zs = us := fun zs hz => AllI.uniq (E := twE n) (ls := ls) (by have := HGd.out zs hz; rw [HNn.out] at this; exact this) hA
            cases hv : trmB us
            · obtain ⟨rfl, rfl⟩ := HR.out.no (fun zs hz => by have h := hz.1; rw [huq zs hz, hv] at h; cases h)
              rw [hv] at HOk
              clear hv hA hbel huq hrow
              go_wp2_with fail
              refine HOk.out.mono ?_
              rintro e w2 ⟨rfl, rfl⟩
              go_wp2_with fail
              go_ret2
              exact ⟨⟨none, 0, rfl, World.ownsRow_nil ..⟩, bel3 HB1.out HB.out (Below.refl _ _)⟩
            · rw [hv] at HOk
              obtain ⟨v1, v2, _⟩ := trmB_iff.1 hv
              rw [hul] at v1 v2
              have HTx := Lib.hid (l03Text_any B n cp us wr hrow v1 v2)
              obtain ⟨T, hT⟩ : ∃ T : ByteArray, T = ⟨(txL us).toArray⟩ := ⟨_, rfl⟩
              rw [← hT] at HTx
              have HTe := Lib.hid hT
              clear hT
              by_cases hq : T = s
              · obtain ⟨rfl, rfl⟩ := HR.out.yes (zs := us) ⟨hv, by rw [← hq, HTe.out, data_mk]⟩
                have htl := tl_t hq
                clear hv hA hbel huq hrow hq
                subst hul
                go_wp2_with fail
                refine HOk.out.mono ?_
                rintro e w2 ⟨rfl, rfl⟩
                go_wp2_with fail
                refine HTx.out.mono ?_
                rintro e w3 ⟨rfl, hb3⟩
                have HO3 := Lib.hid (own_below HO.out hb3)
                have HB3 := Lib.hid (bel3 HB1.out HB.out hb3)
                clear hb3
                go_wp2_with fail
                go_ret2
                exact ⟨⟨B, cp, rfl, own_base HO3.out HB1.out.size⟩, HB3.out⟩
              · obtain ⟨rfl, rfl⟩ := HR.out.no (fun zs hz => hq (by
                  rw [huq zs hz] at hz
                  exact str_ext (by rw [← hz.2, HTe.out, data_mk])))
                have htl := tl_f hq
                clear hv hA hbel huq hrow hq
                go_wp2_with fail
                refine HOk.out.mono ?_
                rintro e w2 ⟨rfl, rfl⟩
                go_wp2_with fail
                refine HTx.out.mono ?_
                rintro e w3 ⟨rfl, hb3⟩
                have HB3 := Lib.hid (bel3 HB1.out HB.out hb3)
                clear hb3
                go_wp2_with fail
                go_ret2
                exact ⟨⟨none, 0, rfl, World.ownsRow_nil ..⟩, HB3.out⟩
      · obtain ⟨rfl, rfl⟩ := HR.out.no (fun zs hz => h93 (HEnd.out zs hz).2.1)
        have hq1 : (s[0].toNat : Int) = 91 := by rw [h91]; rfl
        have hq2 : ((s[s.size - 1].toNat : Int) == 93) = false := neb (a := s[s.size - 1]) (c := 93) (n := 93) h93 rfl
        have hq2b : ((s[s.size - 1].toNat : Int) != 93) = true := by rw [bne, hq2]; rfl
        have hq2c : ¬ (s[s.size - 1].toNat : Int) = 93 := beq_eq_false_iff_ne.1 hq2
        clear h91 h93
        go_enter Tryd.func13, Tryd.ntmps13
        go_wp2_with fail
        go_ret2
        exact ⟨⟨none, 0, rfl, World.ownsRow_nil ..⟩, Below.refl _ _⟩
    · obtain ⟨rfl, rfl⟩ := HR.out.no (fun zs hz => h91 (HEnd.out zs hz).1)
      have hq2 : ((s[0].toNat : Int) == 91) = false := neb (a := s[0]) (c := 91) (n := 91) h91 rfl
      have hq2b : ((s[0].toNat : Int) != 91) = true := by rw [bne, hq2]; rfl
      have hq2c : ¬ (s[0].toNat : Int) = 91 := beq_eq_false_iff_ne.1 hq2
      clear h91
      go_enter Tryd.func13, Tryd.ntmps13
      go_wp2_with fail
      go_ret2
      exact ⟨⟨none, 0, rfl, World.ownsRow_nil ..⟩, Below.refl _ _⟩
end Go.Proofs.YtnikogholldcmaaDoor
