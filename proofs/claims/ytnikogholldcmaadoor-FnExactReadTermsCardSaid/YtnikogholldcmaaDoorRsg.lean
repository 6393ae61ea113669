/-
  Terms with signs read from texts: contracts of the program's and of the reference's functions.
  The table of the powers of ten and the two errors of strconv hold what their initialisers lay; MaxLen holds a number.
-/
import Derived.Test.YtnikogholldcmaaDoorProg
import Derived.Test.YtnikogholldcmaaDoorShelf
import Derived.Test.YtnikogholldcmaaDoorMem
import Derived.Test.YtnikogholldcmaaDoorBasic
import Derived.Test.YtnikogholldcmaaDoorMarks
import Derived.Test.YtnikogholldcmaaDoorSgn
import Derived.Test.YtnikogholldcmaaDoorOwn
import Derived.Test.YtnikogholldcmaaDoorDec
import Derived.Test.YtnikogholldcmaaDoorRdd
import Derived.Test.YtnikogholldcmaaDoorRds
import Derived.Test.YtnikogholldcmaaDoorTtx
import Derived.Test.YtnikogholldcmaaDoorSgtM
import Derived.Test.YtnikogholldcmaaDoorSgt
import Derived.Test.YtnikogholldcmaaDoorSplM
import Derived.Test.YtnikogholldcmaaDoorSpl
import Derived.Test.YtnikogholldcmaaDoorRsgM
import Derived.Test.YtnikogholldcmaaDoorRfr
import Derived.Test.YtnikogholldcmaaDoorRfs
import Derived.Test.YtnikogholldcmaaDoorDrT
import Derived.Test.YtnikogholldcmaaDoorExp
import Derived.Test.YtnikogholldcmaaDoorSpw
import Derived.Handy
import Derived.BigQuiet
import Derived.Deep.QuietTactic
import Derived.Deep.AppendLies
namespace Go.Proofs.YtnikogholldcmaaDoor
open Go.RowKit
set_option linter.unusedVariables false
set_option linter.unusedSimpArgs false
attribute [local go_sem ↓] Go.wp_at_zero Go.wp_at_succ

theorem rdB_rng {l : List UInt8} (h : rdB l = true) : Rng (valI l) := by
  have := (rdB_form h).2.2.2.2
  unfold Rng; omega
theorem AllR.rng {E : Nat → List UInt8 → Option (Int × Int)} (hE : ∀ j p z, E j p = some z → Rng z.1 ∧ Rng z.2) {ls : List (List UInt8)} {zs : List (Int × Int)} (h : AllR E ls zs) : ∀ z ∈ zs, Rng z.1 ∧ Rng z.2 := by
  intro z hz
  obtain ⟨j, hj, e⟩ := List.mem_iff_getElem.1 hz
  have hl : j < ls.length := by rw [← h.1]; exact hj
  have := h.2 j ls[j] (List.getElem?_eq_getElem hl)
  rw [List.getElem?_eq_getElem hj, e] at this
  exact hE j _ z this
theorem rng1 : Rng 1 := by unfold Rng; omega
theorem rngm1 : Rng (-1) := by unfold Rng; omega
theorem rd1_rng {p : List UInt8} {z : Int × Int} (h : rd1 p = some z) : Rng z.1 ∧ Rng z.2 := by
  unfold rd1 at h
  split at h
  · next hr => injection h with h; subst h; exact ⟨rng1, rdB_rng hr⟩
  · cases h
theorem rl1_rng {p : List UInt8} {z : Int × Int} (h : rl1 p = some z) : Rng z.1 ∧ Rng z.2 := by
  match p, h with
  | [], h => cases h
  | b :: r, h =>
    by_cases h1 : b = 43
    · subst h1
      rw [rl1_p] at h
      split at h
      · next hr => injection h with h; subst h; exact ⟨rng1, rdB_rng hr⟩
      · cases h
    · by_cases h2 : b = 45
      · subst h2
        rw [rl1_m] at h
        split at h
        · next hr => injection h with h; subst h; exact ⟨rngm1, rdB_rng hr⟩
        · cases h
      · rw [rl1_o r h1 h2] at h
        split at h
        · next hr => injection h with h; subst h; exact ⟨rngm1, rdB_rng hr⟩
        · cases h
theorem rs1_rng {p : List UInt8} {z : Int × Int} (h : rs1 p = some z) : Rng z.1 ∧ Rng z.2 := by
  match p, h with
  | [], h => cases h
  | b :: r, h =>
    by_cases h1 : b = 43
    · subst h1; exact rl1_rng (p := 43 :: r) h
    · by_cases h2 : b = 45
      · subst h2; exact rl1_rng (p := 45 :: r) h
      · rw [rs1_o r h1 h2] at h; cases h
theorem rlE_rng (j : Nat) (p : List UInt8) (z : Int × Int) (h : rlE j p = some z) : Rng z.1 ∧ Rng z.2 := by
  unfold rlE at h
  split at h
  · exact rd1_rng h
  · exact rl1_rng h
theorem rsE_rng (j : Nat) (p : List UInt8) (z : Int × Int) (h : rsE j p = some z) : Rng z.1 ∧ Rng z.2 := by
  unfold rsE at h
  split at h
  · exact rd1_rng h
  · exact rs1_rng h
theorem rdT_dd (t : ByteArray) : rdT t = if rdB t.data.toList = true then (valI t.data.toList, true) else (0, false) := rdT_data rfl
/-- The result of a read: a slice of pairs, the call's own, and whether it could be read. -/
def ResR (base : Nat) (R : List (Int × Int)) (b : Bool) (e : Ending) (w : World) : Prop :=
  ∃ A c, e = .returned (.tuple #[.slice A R.length c, .bool b]) ∧ w.ownsRow base 78 2 (.slice A R.length c) R.length (prs R)
theorem Bx.set0 {w W : World} {x y : Int} (h : Bx w W x y) (u : Int) : Bx w (W.setCell ⟨w.heap.size, 0, none⟩ (.int .i64 u)) u y := by
  obtain ⟨h1, h2, f1, f2, h3, h4⟩ := h
  exact ⟨setS h1, setO (fun e => by injection e with _ e; omega) h2, setF f1, setF f2, h3.setCell (p := ⟨w.heap.size, 0, none⟩) (Nat.le_refl _) _, by simpa using h4⟩
theorem Bx.set1 {w W : World} {x y : Int} (h : Bx w W x y) (v : Int) : Bx w (W.setCell ⟨w.heap.size, 1, none⟩ (.int .i64 v)) x v := by
  obtain ⟨h1, h2, f1, f2, h3, h4⟩ := h
  exact ⟨setO (fun e => by injection e with _ e; omega) h1, setS h2, setF f1, setF f2, h3.setCell (p := ⟨w.heap.size, 1, none⟩) (Nat.le_refl _) _, by simpa using h4⟩
theorem bel3 {w w1 wr W : World} (hB1 : Below w.heap.size w w1) (hB : Below w1.heap.size w1 wr) (h : Below wr.heap.size wr W) : Below w.heap.size w W :=
  hB1.trans ((hB.trans (h.mono hB.size)).mono hB1.size)
theorem byte0 {t : ByteArray} {c : UInt8} {r : List UInt8} (h : t.data.toList = c :: r) (h0 : 0 < t.size) : t[0] = c := by
  have := Lib.data_getElem? t 0 h0
  rw [h] at this
  simpa using this.symm
theorem eqb {a c : UInt8} {n : Nat} (h : a = c) (hn : c.toNat = n) : ((a.toNat : Int) == (n : Int)) = true := by rw [h, hn]; exact beq_self_eq_true _
theorem neb {a c : UInt8} {n : Nat} (h : a ≠ c) (hn : c.toNat = n) : ((a.toNat : Int) == (n : Int)) = false := by
  rw [beq_eq_false_iff_ne]
  intro e
  exact h (Lib.byte_eq_of_toNat (by rw [hn]; exact e))
theorem ext1 {t : ByteArray} {c : UInt8} {r : List UInt8} (h : t.data.toList = c :: r) : (t.extract 1 t.size).data.toList = r := by rw [ext_end, h]; rfl
set_option maxRecDepth 100000 in
set_option maxHeartbeats 3200000 in
theorem specRsg_any (s : ByteArray) (w : World) (hs : s.size ≤ 1048576) (R : List (Int × Int)) (b : Bool) (hR : RgR s R b) :
    Calls Tryd.prog 51 #[.string s] w fun e w' => ResR w.heap.size R b e w' ∧ Below w.heap.size w w' := by
  obtain ⟨i0, hi, hz0, hz1, hz2⟩ := info_parts infoS
  have HSp := Lib.hid (l01Split_any s 32 w hs)
  have hll := splL_len_le 32 s.data.toList
  have hle := splL_le 32 s.data.toList
  have hne := splL_ne 32 s.data.toList
  rw [len_size] at hll hle
  have HR := Lib.hid hR
  have HNo := Lib.hid (fun j p h1 h2 => hR.no (Rg.not (s := s) (j := j) (p := p) h1 h2))
  generalize hls : splL 32 s.data.toList = ls at *
  have HLs := Lib.hid hls
  have HLe := Lib.hid hle
  clear hR hls hle
  go_enter Tryd.func51, Tryd.ntmps51
  go_wp2_with fail
  refine HSp.out.mono ?_
  rintro e w1 ⟨⟨A, c, ts, rfl, ho, hts⟩, hb1⟩
  obtain ⟨g, rfl, hg1, hg2⟩ := own_some ho (by match ls, hne with | _ :: _, _ => simp)
  have HT := Lib.hid hts
  have hn : ts.length = ls.length := by rw [← hts, List.length_map]
  have HCs := Lib.hid (fun (k : Nat) t ht => own_cellT (k := k) (t := t) ho ht)
  have HB1 := Lib.hid hb1
  have HO0 := Lib.hid (World.ownsRow_made (e := 78) (size := 2) w1 #[] 0 (Nat.le_refl _) (by decide) rfl)
  have hln : ls.length ≤ 1048577 := by omega
  obtain ⟨n, hnn⟩ : ∃ n, ls.length = n := ⟨_, rfl⟩
  rw [hnn] at hn hln ⊢
  have HN := Lib.hid hn
  have hg1 : g < w1.heap.size := hg2
  clear hts hb1 hnn ho hn hll
  go_wp2_with fail
  go_loopw [5, 6] (fun l i wr => ∃ (k cp : Nat) (B : Option Addr) (us : List (Int × Int)), k ≤ n ∧ i = .int .i64 k ∧ l = .slice B k cp ∧ wr.ownsRow w1.heap.size 78 2 (.slice B k cp) k (prs us) ∧ Hid (AllR rsE (ls.take k) us) ∧ Below w1.heap.size w1 wr) (fun _ i _ => n - (intOf i).toNat)
  case atStart => exact ⟨0, 0, _, [], Nat.zero_le _, rfl, rfl, by have := HO0.out; simpa [prs] using this, AllR.start, (Below.refl _ _).alloc (Nat.le_refl _) _⟩
  case round =>
    obtain ⟨k, cp, B, us, hkn, rfl, rfl, hown, HU, hbel⟩ := hrel
    have HO := Lib.hid hown
    have HB := Lib.hid hbel
    have HLF := Lib.hid hown.lt
    have hwr : w1.heap.size ≤ wr.heap.size := hbel.size
    clear hown
    by_cases hlt : k < n
    · obtain ⟨t, ht⟩ : ∃ t, ts[k]? = some t := ⟨ts[k]'(by have := HN.out; omega), List.getElem?_eq_getElem _⟩
      have hc : wr.cell? ⟨g, k, none⟩ = some (.string t) := (hbel.cell (p := ⟨g, k, none⟩) hg1).trans (HCs.out k t ht)
      have hp : ls[k]? = some t.data.toList := by rw [← HT.out, List.getElem?_map, ht]; rfl
      have HP := Lib.hid hp
      have hts : t.size ≤ 1048576 := by rw [← len_size]; exact Nat.le_trans (HLe.out _ (List.mem_of_getElem? hp)) hs
      clear ht hbel hp
      have hgw : g < wr.heap.size := by omega
      have HLt := Lib.hid (show k < ls.length by have := (List.getElem?_eq_some_iff.1 HP.out).1; exact this)
      have S0 := Lib.hid (Bx.start wr 1 0 78)
      -- what the round meets
      by_cases hk : k = 0
      · subst hk
        obtain ⟨x, ok, hrd, hx⟩ : ∃ x ok, rdT t = (x, ok) ∧ rd1 t.data.toList = if ok = true then some (1, x) else none := by
          rw [rdT_dd]; unfold rd1
          cases rdB t.data.toList
          · exact ⟨0, false, rfl, rfl⟩
          · exact ⟨_, true, rfl, rfl⟩
        have HNum := Lib.hid (fun W => l01Number_any t W hts)
        rw [hrd] at HNum
        have HX := Lib.hid (show rsE 0 t.data.toList = if ok = true then some (1, x) else none from hx)
        have S1 := S0
        clear hrd hx
        cases ok
        · obtain ⟨rfl, rfl⟩ := HNo.out 0 _ HP.out HX.out
          go_wp2_with fail
          refine (HNum.out _).mono ?_
          rintro e w2 ⟨rfl, hb2⟩
          have S2 := Lib.hid (S1.out.keep hb2)
          clear hb2
          go_wp2_with fail
          go_ret2
          exact ⟨⟨none, 0, rfl, World.ownsRow_nil ..⟩, bel3 HB1.out HB.out S2.out.bel⟩
        · have HX := Lib.hid (HX.out.trans (if_pos rfl))
          go_wp2_with fail
          refine (HNum.out _).mono ?_
          rintro e w2 ⟨rfl, hb2⟩
          have S2 := Lib.hid (S1.out.keep hb2)
          have S3 := Lib.hid (S2.out.set1 x)
          obtain ⟨c0, c1, f0, f1, _, hl2⟩ := S2.out
          obtain ⟨d0, d1, _⟩ := S3.out
          have HO3 := Lib.hid (own_below HO.out S3.out.bel)
          clear hb2
          go_wp2_with (first | (at_builtin; refine wpList_append_lies _ rfl (.tmp 54) (.tmp 56) 43 rfl w1.heap.size 78 i0 (.agg #[.int .i64 0, .int .i64 0]) 2 16 Tryd.underlying43 hi hz0 hz1 hz2 rfl (by decide) _ 0 (prs us) (by rfl) (HO3.out.alloc _) ⟨w2.heap.size, 0, none⟩ 1 1 [.int .i64 (1), .int .i64 x] (by rfl) rfl (fun j u hu => newcell (by simp) hu) (by simp [Value.oneCell']) (by decide) (by show 0 + 1 ≤ 9223372036854775807; omega) (by omega) (by simp; omega) (w2.heap.size + 1) (by simp) ?_; intro g' cap1 wn hown1 hgrow hat hlt1))
          go_roundw
          case rel =>
            refine ⟨0 + 1, cap1, _, us ++ [(1, x)], by omega, by go_num, rfl, ?_, HU.out.step HP.out HX.out, ?_⟩
            · rw [show prs (us ++ [(1, x)]) = prs us ++ [.int .i64 (1), .int .i64 x] from by rw [prs_append]; rfl]; exact hown1
            · exact ((HB.out.trans (S3.out.bel.mono hwr)).alloc (by have := S3.out.bel.size; omega) _).grown hgrow (by have := S3.out.bel.size; simp; omega) (fun j hj => (HLF.out j hj).1)
          case measure => simp [intOf]; omega
      · have hk0 : ((0 : Int) < (k : Int)) := by omega
        have HK := Lib.hid hk
        clear hk
        match hpp : t.data.toList with
        | [] =>
          have he : (t.toList == []) = true := by rw [ByteArray.toList_eq, hpp]; rfl
          obtain ⟨rfl, rfl⟩ := HNo.out k _ HP.out (by unfold rsE; rw [if_neg HK.out, hpp]; rfl)
          clear hpp
          go_wp2_with fail
          go_ret2
          exact ⟨⟨none, 0, rfl, World.ownsRow_nil ..⟩, bel3 HB1.out HB.out S0.out.bel⟩
        | ch :: r =>
          have he : (t.toList == []) = false := by rw [ByteArray.toList_eq, hpp]; rfl
          have h0 : 0 < t.size := by rw [← len_size, hpp]; simp
          have hb0 := byte0 hpp h0
          have hxd := ext1 hpp
          by_cases h43 : ch = 43
          · have hq1 : (t[0].toNat : Int) = 43 := by rw [hb0, h43]; rfl
            subst h43
            have hlr : t.data.toList.length = r.length + 1 := by rw [hpp]; rfl
            rw [len_size] at hlr
            have HNum := Lib.hid (fun W => l01Number_any (t.extract 1 t.size) W (by rw [← len_size, hxd]; omega))
            clear hlr
            obtain ⟨x, ok, hrd, hx⟩ : ∃ x ok, rdT (t.extract 1 t.size) = (x, ok) ∧ rs1 t.data.toList = if ok = true then some (1, x) else none := by
              rw [rdT_dd, hpp, hxd, rs1_p]
              cases rdB r
              · exact ⟨0, false, rfl, rfl⟩
              · exact ⟨_, true, rfl, rfl⟩
            rw [hrd] at HNum
            have HX := Lib.hid (show rsE k t.data.toList = if ok = true then some (1, x) else none by unfold rsE; rw [if_neg HK.out]; exact hx)
            have S1 := Lib.hid (S0.out)
            obtain ⟨z0, z1, zf0, zf1, _, zl⟩ := S0.out
            clear hrd hx hpp hxd hb0
            try clear h43
            cases ok
            · obtain ⟨rfl, rfl⟩ := HNo.out k _ HP.out HX.out
              go_wp2_with fail
              refine (HNum.out _).mono ?_
              rintro e w2 ⟨rfl, hb2⟩
              have S2 := Lib.hid (S1.out.keep hb2)
              clear hb2
              go_wp2_with fail
              go_ret2
              exact ⟨⟨none, 0, rfl, World.ownsRow_nil ..⟩, bel3 HB1.out HB.out S2.out.bel⟩
            · have HX := Lib.hid (HX.out.trans (if_pos rfl))
              go_wp2_with fail
              refine (HNum.out _).mono ?_
              rintro e w2 ⟨rfl, hb2⟩
              have S2 := Lib.hid (S1.out.keep hb2)
              have S3 := Lib.hid (S2.out.set1 x)
              obtain ⟨c0, c1, f0, f1, _, hl2⟩ := S2.out
              obtain ⟨d0, d1, _⟩ := S3.out
              have HO3 := Lib.hid (own_below HO.out S3.out.bel)
              clear hb2
              go_wp2_with (first | (at_builtin; refine wpList_append_lies _ rfl (.tmp 54) (.tmp 56) 43 rfl w1.heap.size 78 i0 (.agg #[.int .i64 0, .int .i64 0]) 2 16 Tryd.underlying43 hi hz0 hz1 hz2 rfl (by decide) _ k (prs us) (by rfl) (HO3.out.alloc _) ⟨w2.heap.size, 0, none⟩ 1 1 [.int .i64 (1), .int .i64 x] (by rfl) rfl (fun j u hu => newcell (by simp) hu) (by simp [Value.oneCell']) (by decide) (by show k + 1 ≤ 9223372036854775807; omega) (by omega) (by simp; omega) (w2.heap.size + 1) (by simp) ?_; intro g' cap1 wn hown1 hgrow hat hlt1))
              go_roundw
              case rel =>
                refine ⟨k + 1, cap1, _, us ++ [(1, x)], by omega, by go_num, rfl, ?_, HU.out.step HP.out HX.out, ?_⟩
                · rw [show prs (us ++ [(1, x)]) = prs us ++ [.int .i64 (1), .int .i64 x] from by rw [prs_append]; rfl]; exact hown1
                · exact ((HB.out.trans (S3.out.bel.mono hwr)).alloc (by have := S3.out.bel.size; omega) _).grown hgrow (by have := S3.out.bel.size; simp; omega) (fun j hj => (HLF.out j hj).1)
              case measure => simp [intOf]; omega
          · have hq1 : ((t[0].toNat : Int) == 43) = false := neb (a := t[0]) (c := 43) (n := 43) (by rw [hb0]; exact h43) rfl
            have hq1b : ((t[0].toNat : Int) != 43) = true := by rw [bne, hq1]; rfl
            have hq1c : ¬ (t[0].toNat : Int) = 43 := beq_eq_false_iff_ne.1 hq1
            by_cases h45 : ch = 45
            · have hq2 : (t[0].toNat : Int) = 45 := by rw [hb0, h45]; rfl
              clear hq1 hq1b hq1c
              subst h45
              have hlr : t.data.toList.length = r.length + 1 := by rw [hpp]; rfl
              rw [len_size] at hlr
              have HNum := Lib.hid (fun W => l01Number_any (t.extract 1 t.size) W (by rw [← len_size, hxd]; omega))
              clear hlr
              obtain ⟨x, ok, hrd, hx⟩ : ∃ x ok, rdT (t.extract 1 t.size) = (x, ok) ∧ rs1 t.data.toList = if ok = true then some (-1, x) else none := by
                rw [rdT_dd, hpp, hxd, rs1_m]
                cases rdB r
                · exact ⟨0, false, rfl, rfl⟩
                · exact ⟨_, true, rfl, rfl⟩
              rw [hrd] at HNum
              have HX := Lib.hid (show rsE k t.data.toList = if ok = true then some (-1, x) else none by unfold rsE; rw [if_neg HK.out]; exact hx)
              have S1 := Lib.hid (Bx.start wr (-1) 0 78)
              obtain ⟨z0, z1, zf0, zf1, _, zl⟩ := S0.out
              clear hrd hx hpp hxd hb0
              try clear h43
              cases ok
              · obtain ⟨rfl, rfl⟩ := HNo.out k _ HP.out HX.out
                go_wp2_with fail
                refine (HNum.out _).mono ?_
                rintro e w2 ⟨rfl, hb2⟩
                have S2 := Lib.hid (S1.out.keep hb2)
                clear hb2
                go_wp2_with fail
                go_ret2
                exact ⟨⟨none, 0, rfl, World.ownsRow_nil ..⟩, bel3 HB1.out HB.out S2.out.bel⟩
              · have HX := Lib.hid (HX.out.trans (if_pos rfl))
                go_wp2_with fail
                refine (HNum.out _).mono ?_
                rintro e w2 ⟨rfl, hb2⟩
                have S2 := Lib.hid (S1.out.keep hb2)
                have S3 := Lib.hid (S2.out.set1 x)
                obtain ⟨c0, c1, f0, f1, _, hl2⟩ := S2.out
                obtain ⟨d0, d1, _⟩ := S3.out
                have HO3 := Lib.hid (own_below HO.out S3.out.bel)
                clear hb2
                go_wp2_with (first | (at_builtin; refine wpList_append_lies _ rfl (.tmp 54) (.tmp 56) 43 rfl w1.heap.size 78 i0 (.agg #[.int .i64 0, .int .i64 0]) 2 16 Tryd.underlying43 hi hz0 hz1 hz2 rfl (by decide) _ k (prs us) (by rfl) (HO3.out.alloc _) ⟨w2.heap.size, 0, none⟩ 1 1 [.int .i64 (-1), .int .i64 x] (by rfl) rfl (fun j u hu => newcell (by simp) hu) (by simp [Value.oneCell']) (by decide) (by show k + 1 ≤ 9223372036854775807; omega) (by omega) (by simp; omega) (w2.heap.size + 1) (by simp) ?_; intro g' cap1 wn hown1 hgrow hat hlt1))
                go_roundw
                case rel =>
                  refine ⟨k + 1, cap1, _, us ++ [(-1, x)], by omega, by go_num, rfl, ?_, HU.out.step HP.out HX.out, ?_⟩
                  · rw [show prs (us ++ [(-1, x)]) = prs us ++ [.int .i64 (-1), .int .i64 x] from by rw [prs_append]; rfl]; exact hown1
                  · exact ((HB.out.trans (S3.out.bel.mono hwr)).alloc (by have := S3.out.bel.size; omega) _).grown hgrow (by have := S3.out.bel.size; simp; omega) (fun j hj => (HLF.out j hj).1)
                case measure => simp [intOf]; omega
            · have hq2 : ((t[0].toNat : Int) == 45) = false := neb (a := t[0]) (c := 45) (n := 45) (by rw [hb0]; exact h45) rfl
              have hq2b : ((t[0].toNat : Int) != 45) = true := by rw [bne, hq2]; rfl
              have hq2c : ¬ (t[0].toNat : Int) = 45 := beq_eq_false_iff_ne.1 hq2
              obtain ⟨rfl, rfl⟩ := HNo.out k _ HP.out (by unfold rsE; rw [if_neg HK.out, hpp]; exact rs1_o r h43 h45)
              clear hpp hxd hb0 h43 h45
              go_wp2_with fail
              go_ret2
              exact ⟨⟨none, 0, rfl, World.ownsRow_nil ..⟩, bel3 HB1.out HB.out S0.out.bel⟩
    · obtain rfl : n = k := by omega
      clear hlt
      have hA : AllR rsE ls us := by
        have h := HU.out
        have hl : ls.length = n := by rw [← HN.out, ← HT.out, List.length_map]
        rw [← hl] at h; exact h.all
      have HOk := Lib.hid (fun W h => l04Ok_any B n cp us W h)
      have HPr := Lib.hid (PRow.of_own HO.out (by omega) (hA.rng rsE_rng))
      cases hv : sgnB us
      · obtain ⟨rfl, rfl⟩ := HR.out.no (fun zs hz => by
          have e : zs = us := by
            refine AllR.uniq hz.1 ?_
            rw [HLs.out]; exact hA
          rw [e] at hz
          have := hz.2
          rw [hv] at this; cases this)
        rw [hv] at HOk
        clear hv hA hbel
        go_wp2_with fail
        refine (HOk.out _ HPr.out).mono ?_
        rintro e w2 ⟨rfl, rfl⟩
        go_wp2_with fail
        go_ret2
        exact ⟨⟨none, 0, rfl, World.ownsRow_nil ..⟩, bel3 HB1.out HB.out (Below.refl _ _)⟩
      · obtain ⟨rfl, rfl⟩ := HR.out.yes (zs := us) ⟨by rw [HLs.out]; exact hA, hv⟩
        rw [hv] at HOk
        have hl := own_lenP HO.out
        clear hv hA hbel
        subst hl
        go_wp2_with fail
        refine (HOk.out _ HPr.out).mono ?_
        rintro e w2 ⟨rfl, rfl⟩
        go_wp2_with fail
        go_ret2
        exact ⟨⟨B, cp, rfl, own_base HO.out HB1.out.size⟩, bel3 HB1.out HB.out (Below.refl _ _)⟩
theorem cutP_hit (t : ByteArray) (c : UInt8) (r : List UInt8) (h : t.data.toList = c :: r) (w : World) :
    Calls Tryd.prog 58 #[.string t, .string ⟨#[c]⟩] w fun e w' => e = .returned (.tuple #[.string ⟨r.toArray⟩, .bool true]) ∧ w' = w := by
  refine (Tryd.strings_CutPrefix t ⟨#[c]⟩ w).mono ?_
  rintro e w' ⟨h1, h2⟩
  have e1 : Lib.hasPrefix t.data.toList (⟨#[c]⟩ : ByteArray).data.toList = true := by rw [h]; simp [Lib.hasPrefix]
  have e2 : Lib.trimPrefix t.data.toList (⟨#[c]⟩ : ByteArray).data.toList = r := by unfold Lib.trimPrefix; rw [e1, if_pos rfl, h]; rfl
  rw [e1, e2] at h1
  exact ⟨h1, h2⟩
theorem cutP_miss (t : ByteArray) (c : UInt8) (h : ¬ ∃ r, t.data.toList = c :: r) (w : World) :
    Calls Tryd.prog 58 #[.string t, .string ⟨#[c]⟩] w fun e w' => e = .returned (.tuple #[.string t, .bool false]) ∧ w' = w := by
  refine (Tryd.strings_CutPrefix t ⟨#[c]⟩ w).mono ?_
  rintro e w' ⟨h1, h2⟩
  have e1 : Lib.hasPrefix t.data.toList (⟨#[c]⟩ : ByteArray).data.toList = false := by
    match hq : t.data.toList with
    | [] => simp [Lib.hasPrefix]
    | b :: r =>
      have : b ≠ c := fun e => h ⟨r, by rw [hq, e]⟩
      show (c == b && List.isPrefixOf [] r) = false
      rw [beq_eq_false_iff_ne.2 (Ne.symm this)]; rfl
  have e2 : Lib.trimPrefix t.data.toList (⟨#[c]⟩ : ByteArray).data.toList = t.data.toList := by unfold Lib.trimPrefix; rw [e1, if_neg (by simp)]
  rw [e1, e2] at h1
  exact ⟨by rw [h1, show (⟨t.data.toList.toArray⟩ : ByteArray) = t from str_ext (by simp)], h2⟩
theorem rs_rl {j : Nat} {p : List UInt8} {z : Int × Int} (h : rsE j p = some z) : rlE j p = some z := by
  unfold rsE at h
  unfold rlE
  by_cases hj : j = 0
  · rw [if_pos hj] at h ⊢; exact h
  · rw [if_neg hj] at h ⊢
    have := rs_sign h
    rw [rl_rs this (by unfold sgB; split; exact .inr rfl; exact .inl rfl)]; exact h
theorem AllR.loose {ls : List (List UInt8)} {zs : List (Int × Int)} (h : AllR rsE ls zs) : AllR rlE ls zs := by
  refine ⟨h.1, fun j p hp => ?_⟩
  have h1 := h.2 j p hp
  have hl : j < zs.length := by rw [h.1]; exact (List.getElem?_eq_some_iff.1 hp).1
  rw [List.getElem?_eq_getElem hl] at h1 ⊢
  exact rs_rl h1
set_option maxRecDepth 100000 in
set_option maxHeartbeats 3200000 in
theorem implRsg_any (s : ByteArray) (w : World) (hs : s.size ≤ 1048576) (hd : Dr w) (he : Er w) (hm : Mx w) (R : List (Int × Int)) (b : Bool) (hR : RgR s R b) :
    Calls Tryd.prog 52 #[.string s] w fun e w' => ResR w.heap.size R b e w' ∧ Below w.heap.size w w' := by
  obtain ⟨i0, hi, hz0, hz1, hz2⟩ := info_parts infoS
  have HSp := Lib.hid (splitAny s 32 w hs hm)
  have hll := splL_len_le 32 s.data.toList
  have hle := splL_le 32 s.data.toList
  rw [len_size] at hll hle
  have HR := Lib.hid hR
  have HTx := Lib.hid (fun zs => rl_text (s := s) (zs := zs))
  have HNo := Lib.hid (fun j p h1 h2 => hR.no (Rg.not (s := s) (j := j) (p := p) h1 h2))
  generalize hls : splL 32 s.data.toList = ls at *
  have HLs := Lib.hid hls
  have HLe := Lib.hid hle
  have HD := Lib.hid hd
  have HE := Lib.hid he
  clear hR hls hle hd he hm
  go_enter Tryd.func52, Tryd.ntmps52
  go_wp2_with fail
  refine HSp.out.mono ?_
  rintro e w1 ⟨ts, rfl, hts, hcs, hb1, hg1⟩
  have HT := Lib.hid hts
  have hn : ts.length = ls.length := by rw [← hts, List.length_map]
  have HCs := Lib.hid hcs
  have HB1 := Lib.hid hb1
  have hln : ts.length ≤ 1048577 := by omega
  obtain ⟨n, hnn⟩ : ∃ n, ts.length = n := ⟨_, rfl⟩
  rw [hnn] at hn hln ⊢
  have HN := Lib.hid hnn
  clear hts hcs hb1 hnn hn hll
  go_wp2_with fail
  go_loopw [4, 15] (fun l i wr => ∃ (k cp : Nat) (B : Option Addr) (us : List (Int × Int)), k ≤ n ∧ i = .int .i64 k ∧ l = .slice B k cp ∧ wr.ownsRow w1.heap.size 78 2 (.slice B k cp) k (prs us) ∧ Hid (AllR rlE (ls.take k) us) ∧ Below w1.heap.size w1 wr) (fun _ i _ => n - (intOf i).toNat)
  case atStart => exact ⟨0, 0, _, [], Nat.zero_le _, rfl, rfl, World.ownsRow_nil .., AllR.start, Below.refl _ _⟩
  case round =>
    obtain ⟨k, cp, B, us, hkn, rfl, rfl, hown, HU, hbel⟩ := hrel
    have HO := Lib.hid hown
    have HB := Lib.hid hbel
    have HLF := Lib.hid hown.lt
    have hwr : w1.heap.size ≤ wr.heap.size := hbel.size
    clear hown
    by_cases hlt : k < n
    · obtain ⟨t, ht⟩ : ∃ t, ts[k]? = some t := ⟨ts[k]'(by have := HN.out; omega), List.getElem?_eq_getElem _⟩
      have hc : wr.cell? ⟨w.heap.size, k, none⟩ = some (.string t) := (hbel.cell (p := ⟨w.heap.size, k, none⟩) hg1).trans (HCs.out k t ht)
      have hp : ls[k]? = some t.data.toList := by rw [← HT.out, List.getElem?_map, ht]; rfl
      have HP := Lib.hid hp
      have hts : t.size ≤ 1048576 := by rw [← len_size]; exact Nat.le_trans (HLe.out _ (List.mem_of_getElem? hp)) hs
      clear ht hbel hp
      have hgw : w.heap.size < wr.heap.size := by omega
      have S0 := Lib.hid (Bx.start wr 1 0 78)
      have HDB : ∀ W, Below wr.heap.size wr W → Dr W := fun W h => (HD.out.below (bel3 HB1.out HB.out h))
      have HEB : ∀ W, Below wr.heap.size wr W → Er W := fun W h => (HE.out.below (bel3 HB1.out HB.out h))
      have HDB := Lib.hid HDB
      have HEB := Lib.hid HEB
      -- what the round meets
      by_cases hk : k = 0
      · subst hk
        obtain ⟨x, ok, hrd, hx⟩ : ∃ x ok, rdT t = (x, ok) ∧ rd1 t.data.toList = if ok = true then some (1, x) else none := by
          rw [rdT_dd]; unfold rd1
          cases rdB t.data.toList
          · exact ⟨0, false, rfl, rfl⟩
          · exact ⟨_, true, rfl, rfl⟩
        have HNum := Lib.hid (fun W d e => readDecimal_any t W hts d e)
        rw [hrd] at HNum
        have HX := Lib.hid (show rlE 0 t.data.toList = if ok = true then some (1, x) else none from hx)
        have S1 := S0
        clear hrd hx
        cases ok
        · obtain ⟨rfl, rfl⟩ := HNo.out 0 _ HP.out (rl_none HX.out)
          go_wp2_with fail
          refine (HNum.out _ (HDB.out _ S1.out.bel) (HEB.out _ S1.out.bel)).mono ?_
          rintro e w2 ⟨rfl, hb2⟩
          have S2 := Lib.hid (S1.out.keep hb2)
          clear hb2
          go_wp2_with fail
          go_ret2
          exact ⟨⟨none, 0, rfl, World.ownsRow_nil ..⟩, bel3 HB1.out HB.out S2.out.bel⟩
        · have HX := Lib.hid (HX.out.trans (if_pos rfl))
          go_wp2_with fail
          refine (HNum.out _ (HDB.out _ S1.out.bel) (HEB.out _ S1.out.bel)).mono ?_
          rintro e w2 ⟨rfl, hb2⟩
          have S2 := Lib.hid (S1.out.keep hb2)
          have S3 := Lib.hid (S2.out.set1 x)
          obtain ⟨c0, c1, f0, f1, _, hl2⟩ := S2.out
          obtain ⟨d0, d1, _⟩ := S3.out
          have HO3 := Lib.hid (own_below HO.out S3.out.bel)
          clear hb2
          go_wp2_with (first | (at_builtin; refine wpList_append_lies _ rfl (.tmp 46) (.tmp 48) 43 rfl w1.heap.size 78 i0 (.agg #[.int .i64 0, .int .i64 0]) 2 16 Tryd.underlying43 hi hz0 hz1 hz2 rfl (by decide) _ 0 (prs us) (by rfl) (HO3.out.alloc _) ⟨w2.heap.size, 0, none⟩ 1 1 [.int .i64 (1), .int .i64 x] (by rfl) rfl (fun j u hu => newcell (by simp) hu) (by simp [Value.oneCell']) (by decide) (by show 0 + 1 ≤ 9223372036854775807; omega) (by omega) (by simp; omega) (w2.heap.size + 1) (by simp) ?_; intro g' cap1 wn hown1 hgrow hat hlt1))
          go_roundw
          case rel =>
            refine ⟨0 + 1, cap1, _, us ++ [(1, x)], by omega, by go_num, rfl, ?_, HU.out.step HP.out HX.out, ?_⟩
            · rw [show prs (us ++ [(1, x)]) = prs us ++ [.int .i64 (1), .int .i64 x] from by rw [prs_append]; rfl]; exact hown1
            · exact ((HB.out.trans (S3.out.bel.mono hwr)).alloc (by have := S3.out.bel.size; omega) _).grown hgrow (by have := S3.out.bel.size; simp; omega) (fun j hj => (HLF.out j hj).1)
          case measure => simp [intOf]; omega
      · have hk0 : ((0 : Int) < (k : Int)) := by omega
        have HK := Lib.hid hk
        clear hk
        by_cases h43 : ∃ r, t.data.toList = 43 :: r
        · obtain ⟨r, hpp⟩ := h43
          have HC1 := Lib.hid (fun W => cutP_hit t 43 r hpp W)
          obtain ⟨u, hu⟩ : ∃ u : ByteArray, u = ⟨r.toArray⟩ := ⟨_, rfl⟩
          rw [← hu] at HC1
          have hud : u.data.toList = r := by subst hu; simp
          have hlr : t.data.toList.length = r.length + 1 := by rw [hpp]; rfl
          rw [len_size] at hlr
          have hus : u.size ≤ 1048576 := by have := len_size u; rw [hud] at this; omega
          obtain ⟨x, ok, hrd, hx⟩ : ∃ x ok, rdT u = (x, ok) ∧ rl1 t.data.toList = if ok = true then some (1, x) else none := by
            rw [rdT_dd, hpp, hud, rl1_p]
            cases rdB r
            · exact ⟨0, false, rfl, rfl⟩
            · exact ⟨_, true, rfl, rfl⟩
          have HNum := Lib.hid (fun W d e => readDecimal_any u W hus d e)
          rw [hrd] at HNum
          have HX := Lib.hid (show rlE k t.data.toList = if ok = true then some (1, x) else none by unfold rlE; rw [if_neg HK.out]; exact hx)
          have S1 := S0
          obtain ⟨z0, z1, zf0, zf1, _, zl⟩ := S0.out
          clear hrd hx hpp hud hu hlr
          cases ok
          · obtain ⟨rfl, rfl⟩ := HNo.out k _ HP.out (rl_none HX.out)
            go_wp2_with fail
            refine (HC1.out _).mono ?_
            rintro e wz ⟨rfl, hw0⟩
            obtain rfl := hw0.symm
            clear hw0
            go_wp2_with fail
            refine (HNum.out _ (HDB.out _ S1.out.bel) (HEB.out _ S1.out.bel)).mono ?_
            rintro e w2 ⟨rfl, hb2⟩
            have S2 := Lib.hid (S1.out.keep hb2)
            clear hb2
            go_wp2_with fail
            go_ret2
            exact ⟨⟨none, 0, rfl, World.ownsRow_nil ..⟩, bel3 HB1.out HB.out S2.out.bel⟩
          · have HX := Lib.hid (HX.out.trans (if_pos rfl))
            go_wp2_with fail
            refine (HC1.out _).mono ?_
            rintro e wz ⟨rfl, hw0⟩
            obtain rfl := hw0.symm
            clear hw0
            go_wp2_with fail
            refine (HNum.out _ (HDB.out _ S1.out.bel) (HEB.out _ S1.out.bel)).mono ?_
            rintro e w2 ⟨rfl, hb2⟩
            have S2 := Lib.hid (S1.out.keep hb2)
            have S3 := Lib.hid (S2.out.set1 x)
            obtain ⟨c0, c1, f0, f1, _, hl2⟩ := S2.out
            obtain ⟨d0, d1, _⟩ := S3.out
            have HO3 := Lib.hid (own_below HO.out S3.out.bel)
            clear hb2
            go_wp2_with (first | (at_builtin; refine wpList_append_lies _ rfl (.tmp 46) (.tmp 48) 43 rfl w1.heap.size 78 i0 (.agg #[.int .i64 0, .int .i64 0]) 2 16 Tryd.underlying43 hi hz0 hz1 hz2 rfl (by decide) _ k (prs us) (by rfl) (HO3.out.alloc _) ⟨w2.heap.size, 0, none⟩ 1 1 [.int .i64 (1), .int .i64 x] (by rfl) rfl (fun j u hu => newcell (by simp) hu) (by simp [Value.oneCell']) (by decide) (by show k + 1 ≤ 9223372036854775807; omega) (by omega) (by simp; omega) (w2.heap.size + 1) (by simp) ?_; intro g' cap1 wn hown1 hgrow hat hlt1))
            go_roundw
            case rel =>
              refine ⟨k + 1, cap1, _, us ++ [(1, x)], by omega, by go_num, rfl, ?_, HU.out.step HP.out HX.out, ?_⟩
              · rw [show prs (us ++ [(1, x)]) = prs us ++ [.int .i64 (1), .int .i64 x] from by rw [prs_append]; rfl]; exact hown1
              · exact ((HB.out.trans (S3.out.bel.mono hwr)).alloc (by have := S3.out.bel.size; omega) _).grown hgrow (by have := S3.out.bel.size; simp; omega) (fun j hj => (HLF.out j hj).1)
            case measure => simp [intOf]; omega
        · have HC1 := Lib.hid (fun W => cutP_miss t 43 h43 W)
          obtain ⟨u, hC2, hus, hx0⟩ : ∃ u : ByteArray, (∀ W, Calls Tryd.prog 58 #[.string t, .string ⟨#[45]⟩] W fun e w' => (∃ q, e = .returned (.tuple #[.string u, .bool q])) ∧ w' = W) ∧ u.size ≤ 1048576 ∧ rl1 t.data.toList = if rdB u.data.toList = true then some (-1, valI u.data.toList) else none := by
            by_cases h45 : ∃ r, t.data.toList = 45 :: r
            · obtain ⟨r, hpp⟩ := h45
              have hlr : t.data.toList.length = r.length + 1 := by rw [hpp]; rfl
              rw [len_size] at hlr
              have hud : (⟨r.toArray⟩ : ByteArray).data.toList = r := by simp
              refine ⟨⟨r.toArray⟩, fun W => (cutP_hit t 45 r hpp W).mono (fun e w' h => ⟨⟨_, h.1⟩, h.2⟩), by rw [← len_size, hud]; omega, by rw [hpp, hud, rl1_m]⟩
            · refine ⟨t, fun W => (cutP_miss t 45 h45 W).mono (fun e w' h => ⟨⟨_, h.1⟩, h.2⟩), hts, ?_⟩
              match hq : t.data.toList with
              | [] =>
                rw [if_neg]; rfl
                intro h; exact (rdB_form h).2.2.2.1 rfl
              | ch :: r => exact rl1_o r (fun e => h43 ⟨r, by rw [hq, e]⟩) (fun e => h45 ⟨r, by rw [hq, e]⟩)
          have HC2 := Lib.hid hC2
          obtain ⟨x, ok, hrd, hx⟩ : ∃ x ok, rdT u = (x, ok) ∧ rl1 t.data.toList = if ok = true then some (-1, x) else none := by
            rw [rdT_dd, hx0]
            cases rdB u.data.toList
            · exact ⟨0, false, rfl, rfl⟩
            · exact ⟨_, true, rfl, rfl⟩
          have HNum := Lib.hid (fun W d e => readDecimal_any u W hus d e)
          rw [hrd] at HNum
          have HX := Lib.hid (show rlE k t.data.toList = if ok = true then some (-1, x) else none by unfold rlE; rw [if_neg HK.out]; exact hx)
          have S1 := Lib.hid (Bx.start wr (-1) 0 78)
          obtain ⟨z0, z1, zf0, zf1, _, zl⟩ := S0.out
          clear hrd hx hC2 hx0 h43
          cases ok
          · obtain ⟨rfl, rfl⟩ := HNo.out k _ HP.out (rl_none HX.out)
            go_wp2_with fail
            refine (HC1.out _).mono ?_
            rintro e wz ⟨rfl, hw0⟩
            obtain rfl := hw0.symm
            clear hw0
            go_wp2_with fail
            refine (HC2.out _).mono ?_
            rintro e wz ⟨⟨q, rfl⟩, hw0⟩
            obtain rfl := hw0.symm
            clear hw0
            go_wp2_with fail
            refine (HNum.out _ (HDB.out _ S1.out.bel) (HEB.out _ S1.out.bel)).mono ?_
            rintro e w2 ⟨rfl, hb2⟩
            have S2 := Lib.hid (S1.out.keep hb2)
            clear hb2
            go_wp2_with fail
            go_ret2
            exact ⟨⟨none, 0, rfl, World.ownsRow_nil ..⟩, bel3 HB1.out HB.out S2.out.bel⟩
          · have HX := Lib.hid (HX.out.trans (if_pos rfl))
            go_wp2_with fail
            refine (HC1.out _).mono ?_
            rintro e wz ⟨rfl, hw0⟩
            obtain rfl := hw0.symm
            clear hw0
            go_wp2_with fail
            refine (HC2.out _).mono ?_
            rintro e wz ⟨⟨q, rfl⟩, hw0⟩
            obtain rfl := hw0.symm
            clear hw0
            go_wp2_with fail
            refine (HNum.out _ (HDB.out _ S1.out.bel) (HEB.out _ S1.out.bel)).mono ?_
            rintro e w2 ⟨rfl, hb2⟩
            have S2 := Lib.hid (S1.out.keep hb2)
            have S3 := Lib.hid (S2.out.set1 x)
            obtain ⟨c0, c1, f0, f1, _, hl2⟩ := S2.out
            obtain ⟨d0, d1, _⟩ := S3.out
            have HO3 := Lib.hid (own_below HO.out S3.out.bel)
            clear hb2
            go_wp2_with (first | (at_builtin; refine wpList_append_lies _ rfl (.tmp 46) (.tmp 48) 43 rfl w1.heap.size 78 i0 (.agg #[.int .i64 0, .int .i64 0]) 2 16 Tryd.underlying43 hi hz0 hz1 hz2 rfl (by decide) _ k (prs us) (by rfl) (HO3.out.alloc _) ⟨w2.heap.size, 0, none⟩ 1 1 [.int .i64 (-1), .int .i64 x] (by rfl) rfl (fun j u hu => newcell (by simp) hu) (by simp [Value.oneCell']) (by decide) (by show k + 1 ≤ 9223372036854775807; omega) (by omega) (by simp; omega) (w2.heap.size + 1) (by simp) ?_; intro g' cap1 wn hown1 hgrow hat hlt1))
            go_roundw
            case rel =>
              refine ⟨k + 1, cap1, _, us ++ [(-1, x)], by omega, by go_num, rfl, ?_, HU.out.step HP.out HX.out, ?_⟩
              · rw [show prs (us ++ [(-1, x)]) = prs us ++ [.int .i64 (-1), .int .i64 x] from by rw [prs_append]; rfl]; exact hown1
              · exact ((HB.out.trans (S3.out.bel.mono hwr)).alloc (by have := S3.out.bel.size; omega) _).grown hgrow (by have := S3.out.bel.size; simp; omega) (fun j hj => (HLF.out j hj).1)
            case measure => simp [intOf]; omega
    · obtain rfl : n = k := by omega
      clear hlt
      have hA : AllR rlE ls us := by
        have h := HU.out
        have hl : ls.length = n := by rw [← HN.out, ← HT.out, List.length_map]
        rw [← hl] at h; exact h.all
      have HBw := HB1.out.trans (HB.out.mono HB1.out.size)
      have HSt := Lib.hid (implSgt_any B n cp us wr (PRow.of_own HO.out (by omega) (hA.rng rlE_rng)) (own_cap HO.out) (HD.out.below HBw))
      have hT := HTx.out us hA
      by_cases hq : sgS us = s
      · obtain ⟨rfl, rfl⟩ := HR.out.yes (zs := us) (hT.1 hq)
        have htl := tl_t hq
        have hl := own_lenP HO.out
        have HBw := Lib.hid HBw
        clear hA hbel hT hq
        subst hl
        go_wp2_with fail
        refine HSt.out.mono ?_
        rintro e w2 ⟨rfl, hb2⟩
        have HO2 := Lib.hid (own_below HO.out hb2)
        have HB2 := Lib.hid (bel3 HB1.out HB.out hb2)
        clear hb2
        go_wp2_with fail
        go_ret2
        exact ⟨⟨B, cp, rfl, own_base HO2.out HB1.out.size⟩, HB2.out⟩
      · obtain ⟨rfl, rfl⟩ := HR.out.no (fun zs hz => hq (by
          have e : zs = us := by
            refine AllR.uniq (E := rlE) (ls := ls) ?_ hA
            have h1 := hz.1
            rw [HLs.out] at h1
            exact h1.loose
          rw [e] at hz
          exact hT.2 hz))
        have htl := tl_f hq
        have HBw := Lib.hid HBw
        clear hA hbel hT hq
        go_wp2_with fail
        refine HSt.out.mono ?_
        rintro e w2 ⟨rfl, hb2⟩
        have HB2 := Lib.hid (bel3 HB1.out HB.out hb2)
        clear hb2
        go_wp2_with fail
        go_ret2
        exact ⟨⟨none, 0, rfl, World.ownsRow_nil ..⟩, HB2.out⟩
end Go.Proofs.YtnikogholldcmaaDoor
