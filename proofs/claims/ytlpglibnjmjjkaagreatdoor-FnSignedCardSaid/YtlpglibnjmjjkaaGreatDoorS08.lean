/-
  Fractions read from texts: contracts of the program's and of the reference's functions; the walk of the law FnExactReadFraction.
  Fractions read from texts in the reference: contract; the walk of the law FnExactReadFraction.
  The words of a text: contracts of the program's and of the reference's functions.
  Terms with signs read from texts: contracts of the program's and of the reference's functions.
  The walk of the law FnExactReadSigned.
  The walk of the law FnSigned.
  Conditions: those of the law's own text, and that the package-level variables hold what the program's text lays in them.
-/
import Derived.Test.YtlpglibnjmjjkaaGreatDoorProg
import Derived.Test.YtlpglibnjmjjkaaGreatDoorShelf
import Derived.Test.YtlpglibnjmjjkaaGreatDoorS01
import Derived.Test.YtlpglibnjmjjkaaGreatDoorS02
import Derived.Test.YtlpglibnjmjjkaaGreatDoorS05
import Derived.Test.YtlpglibnjmjjkaaGreatDoorS07
import Derived.Handy
import Derived.BigQuiet
import Derived.Deep.QuietTactic
import Derived.Test.YtlpglibnjmjjkaaGreatDoorS04
import Derived.Deep.AppendLies
import Derived.Test.YtlpglibnjmjjkaaGreatDoorS06
import Derived.Test.YtlpglibnjmjjkaaGreatDoorS03
import Derived.Lib.ItoaLen
import Derived.StillTailTactics
import Derived.RegionTactic
import Derived.BigRegion
import Derived.Deep.RegionHeld3
import Derived.Deep.DrawnRows
namespace Go.Proofs.YtlpglibnjmjjkaaGreatDoor
open Go.RowKit
set_option linter.unusedVariables false
set_option linter.unusedSimpArgs false
attribute [local go_sem ↓] Go.wp_at_zero Go.wp_at_succ

/-- A box of two numbers that the call has made first. -/
def Bx (w W : World) (x y : Int) : Prop := W.cell? ⟨w.heap.size, 0, none⟩ = some (.int .i64 x) ∧ W.cell? ⟨w.heap.size, 1, none⟩ = some (.int .i64 y) ∧ W.frozen? ⟨w.heap.size, 0, none⟩ = false ∧ W.frozen? ⟨w.heap.size, 1, none⟩ = false ∧ Below w.heap.size w W ∧ w.heap.size < W.heap.size
theorem Bx.start (w : World) (x y : Int) (t : TypeId) : Bx w (w.alloc (.cells #[.int .i64 x, .int .i64 y] t)) x y :=
  ⟨newcellA rfl rfl, newcellA rfl rfl, by simp, by simp, (Below.refl _ _).alloc (Nat.le_refl _) _, by simp⟩
theorem Bx.keep {w W w1 : World} {x y : Int} (h : Bx w W x y) (hb : Below W.heap.size W w1) : Bx w w1 x y := by
  obtain ⟨h1, h2, f1, f2, h3, h4⟩ := h
  exact ⟨(hb.cell (p := ⟨w.heap.size, 0, none⟩) h4).trans h1, (hb.cell (p := ⟨w.heap.size, 1, none⟩) h4).trans h2, (hb.frozen (p := ⟨w.heap.size, 0, none⟩) h4).trans f1, (hb.frozen (p := ⟨w.heap.size, 1, none⟩) h4).trans f2, h3.trans (hb.mono h3.size), Nat.lt_of_lt_of_le h4 hb.size⟩
theorem Bx.bel {w W : World} {x y : Int} (h : Bx w W x y) : Below w.heap.size w W := h.2.2.2.2.1
theorem Bx.out2 {w W : World} {x y : Int} (h : Bx w W x y) (u v : Value) : Below w.heap.size w ((W.setCell ⟨w.heap.size, 0, none⟩ u).setCell ⟨w.heap.size, 1, none⟩ v) :=
  (h.bel.setCell (p := ⟨w.heap.size, 0, none⟩) (Nat.le_refl _) _).setCell (p := ⟨w.heap.size, 1, none⟩) (Nat.le_refl _) _
theorem Bx.res {w W : World} {x y : Int} (h : Bx w W x y) (o : Obj) (u v : Value) :
    (((W.setCell ⟨w.heap.size, 0, none⟩ u).setCell ⟨w.heap.size, 1, none⟩ v).alloc o).cell? ⟨w.heap.size, 0, none⟩ = some u ∧ (((W.setCell ⟨w.heap.size, 0, none⟩ u).setCell ⟨w.heap.size, 1, none⟩ v).alloc o).cell? ⟨w.heap.size, 1, none⟩ = some v :=
  ⟨(World.cell?_alloc_lt _ o _ (by simpa using h.2.2.2.2.2)).trans (pair_set h.1 h.2.1 u v).2.1, (World.cell?_alloc_lt _ o _ (by simpa using h.2.2.2.2.2)).trans (pair_set h.1 h.2.1 u v).2.2⟩

end Go.Proofs.YtlpglibnjmjjkaaGreatDoor
namespace Go.Proofs.YtlpglibnjmjjkaaGreatDoor
open Go.RowKit
set_option linter.unusedVariables false
set_option linter.unusedSimpArgs false
attribute [local go_sem ↓] Go.wp_at_zero Go.wp_at_succ

theorem splL_le (c : UInt8) : ∀ (l : List UInt8), ∀ p ∈ splL c l, p.length ≤ l.length
  | [], p, h => by simp [splL] at h; subst h; simp
  | b :: r, p, h => by
    have ih := splL_le c r
    by_cases hb : b = c
    · subst hb
      rw [splL_eq] at h
      rcases List.mem_cons.1 h with h | h
      · subst h; simp
      · have := ih p h; rw [List.length_cons]; omega
    · rw [splL_cons hb] at h
      match hs : splL c r with
      | [] => exact absurd hs (splL_ne c r)
      | a :: t =>
        rw [hs] at h
        rcases List.mem_cons.1 h with h | h
        · subst h
          have := ih a (by rw [hs]; simp)
          simp; omega
        · have := ih p (by rw [hs]; simp [h]); rw [List.length_cons]; omega
theorem Bx.set {w W : World} {x y : Int} (h : Bx w W x y) {b : Nat} (hb : w.heap.size < b) (o : Nat) (v : Value) : Bx w (W.setCell ⟨b, o, none⟩ v) x y := by
  obtain ⟨h1, h2, f1, f2, h3, h4⟩ := h
  have e : ∀ j, (⟨b, o, none⟩ : Addr) ≠ ⟨w.heap.size, j, none⟩ := fun j e => by injection e with e; omega
  exact ⟨setO (e 0) h1, setO (e 1) h2, setF f1, setF f2, h3.setCell (p := ⟨b, o, none⟩) (by show w.heap.size ≤ b; omega) _, by simpa using h4⟩
theorem pair_set2 {W : World} {g : Nat} {x y : Value} (h0 : W.cell? ⟨g, 0, none⟩ = some x) (h1 : W.cell? ⟨g, 1, none⟩ = some y) (v : Value) : (W.setCell ⟨g, 1, none⟩ v).cell? ⟨g, 0, none⟩ = some x ∧ (W.setCell ⟨g, 1, none⟩ v).cell? ⟨g, 1, none⟩ = some v :=
  ⟨setO (fun e => by injection e with e1 e2; omega) h0, setS h1⟩
theorem rdT_data {t : ByteArray} {a : List UInt8} (h : t.data.toList = a) : rdT t = if rdB a = true then (valI a, true) else (0, false) := by unfold rdT; rw [h]
end Go.Proofs.YtlpglibnjmjjkaaGreatDoor
namespace Go.Proofs.YtlpglibnjmjjkaaGreatDoor
open Go.RowKit
set_option linter.unusedVariables false
set_option linter.unusedSimpArgs false
attribute [local go_sem ↓] Go.wp_at_zero Go.wp_at_succ

/-- The words of a text. -/
def wdF (ls : List (List UInt8)) : List (List UInt8) := ls.filter (fun p => decide (p ≠ []))
def wdL (l : List UInt8) : List (List UInt8) := wdF (splL 32 l)
theorem wdF_step {ls : List (List UInt8)} {k : Nat} {p : List UInt8} (h : ls[k]? = some p) : wdF (ls.take (k + 1)) = if p = [] then wdF (ls.take k) else wdF (ls.take k) ++ [p] := by
  unfold wdF
  rw [List.take_add_one, h, List.filter_append]
  by_cases hp : p = [] <;> simp [hp]
theorem wdF_len (ls : List (List UInt8)) : (wdF ls).length ≤ ls.length := List.length_filter_le _ _
theorem splL_len_le (c : UInt8) (l : List UInt8) : (splL c l).length ≤ l.length + 1 := by
  rw [splL_len]; have := List.count_le_length (a := c) (l := l); omega
theorem splitAny (s : ByteArray) (c : UInt8) (w : World) (hs : s.size ≤ 1048576) (hm : Mx w) :
    Calls Tryz.prog 50 #[.string s, .string ⟨#[c]⟩] w fun e w' => ∃ ts : List ByteArray, e = .returned (.slice (some ⟨w.heap.size, 0, none⟩) ts.length ts.length) ∧ ts.map (fun t : ByteArray => t.data.toList) = splL c s.data.toList ∧
      (∀ (k : Nat) t, ts[k]? = some t → w'.cell? ⟨w.heap.size, k, none⟩ = some (.string t)) ∧ Below w.heap.size w w' ∧ w.heap.size < w'.heap.size := by
  obtain ⟨m, hm⟩ := hm
  refine (Tryz.strings_Split s ⟨#[c]⟩ m w (by omega) hm (Nat.le_refl 1)).mono ?_
  rintro e w' ⟨he, hw⟩
  have e1 := splitB_spl c s
  have e2 := countB_spl c s
  generalize Lib.splitB ⟨#[c]⟩ 0 (Lib.countB s ⟨#[c]⟩) s = ts at *
  have e3 : ts.length = Lib.countB s ⟨#[c]⟩ + 1 := by rw [e2, ← e1, List.length_map]
  refine ⟨ts, by rw [e3]; exact he, e1, fun k t ht => ?_, ?_, by rw [hw]; simp⟩
  · rw [hw]
    exact newcellA rfl (by simp [ht])
  · rw [hw]; exact (Below.refl _ _).alloc (Nat.le_refl _) _
end Go.Proofs.YtlpglibnjmjjkaaGreatDoor
namespace Go.Proofs.YtlpglibnjmjjkaaGreatDoor
open Go.RowKit
set_option linter.unusedVariables false
set_option linter.unusedSimpArgs false
attribute [local go_sem ↓] Go.wp_at_zero Go.wp_at_succ

theorem rdB_rng {l : List UInt8} (h : rdB l = true) : Rng (valI l) := by
  have := (rdB_form h).2.2.2.2
  unfold Rng; omega
theorem AllR.rng {E : Nat → List UInt8 → Option (Int × Int)} (hE : ∀ j p z, E j p = some z → Rng z.1 ∧ Rng z.2) {ls : List (List UInt8)} {zs : List (Int × Int)} (h : AllR E ls zs) : ∀ z ∈ zs, Rng z.1 ∧ Rng z.2 := by
  intro z hz
  obtain ⟨j, hj, e⟩ := List.mem_iff_getElem.1 hz
  have hl : j < ls.length := by rw [← h.1]; exact hj
  have := h.2 j ls[j] (List.getElem?_eq_getElem hl)
  rw [List.getElem?_eq_getElem hj, e] at this
  exact hE j _ z this
theorem rng1 : Rng 1 := by unfold Rng; omega
theorem rngm1 : Rng (-1) := by unfold Rng; omega
theorem rd1_rng {p : List UInt8} {z : Int × Int} (h : rd1 p = some z) : Rng z.1 ∧ Rng z.2 := by
  unfold rd1 at h
  split at h
  · next hr => injection h with h; subst h; exact ⟨rng1, rdB_rng hr⟩
  · cases h
theorem rl1_rng {p : List UInt8} {z : Int × Int} (h : rl1 p = some z) : Rng z.1 ∧ Rng z.2 := by
  match p, h with
  | [], h => cases h
  | b :: r, h =>
    by_cases h1 : b = 43
    · subst h1
      rw [rl1_p] at h
      split at h
      · next hr => injection h with h; subst h; exact ⟨rng1, rdB_rng hr⟩
      · cases h
    · by_cases h2 : b = 45
      · subst h2
        rw [rl1_m] at h
        split at h
        · next hr => injection h with h; subst h; exact ⟨rngm1, rdB_rng hr⟩
        · cases h
      · rw [rl1_o r h1 h2] at h
        split at h
        · next hr => injection h with h; subst h; exact ⟨rngm1, rdB_rng hr⟩
        · cases h
theorem rs1_rng {p : List UInt8} {z : Int × Int} (h : rs1 p = some z) : Rng z.1 ∧ Rng z.2 := by
  match p, h with
  | [], h => cases h
  | b :: r, h =>
    by_cases h1 : b = 43
    · subst h1; exact rl1_rng (p := 43 :: r) h
    · by_cases h2 : b = 45
      · subst h2; exact rl1_rng (p := 45 :: r) h
      · rw [rs1_o r h1 h2] at h; cases h
theorem rlE_rng (j : Nat) (p : List UInt8) (z : Int × Int) (h : rlE j p = some z) : Rng z.1 ∧ Rng z.2 := by
  unfold rlE at h
  split at h
  · exact rd1_rng h
  · exact rl1_rng h
theorem rsE_rng (j : Nat) (p : List UInt8) (z : Int × Int) (h : rsE j p = some z) : Rng z.1 ∧ Rng z.2 := by
  unfold rsE at h
  split at h
  · exact rd1_rng h
  · exact rs1_rng h
theorem rdT_dd (t : ByteArray) : rdT t = if rdB t.data.toList = true then (valI t.data.toList, true) else (0, false) := rdT_data rfl
/-- The result of a read: a slice of pairs, the call's own, and whether it could be read. -/
def ResR (base : Nat) (R : List (Int × Int)) (b : Bool) (e : Ending) (w : World) : Prop :=
  ∃ A c, e = .returned (.tuple #[.slice A R.length c, .bool b]) ∧ w.ownsRow base 86 2 (.slice A R.length c) R.length (prs R)
theorem Bx.set0 {w W : World} {x y : Int} (h : Bx w W x y) (u : Int) : Bx w (W.setCell ⟨w.heap.size, 0, none⟩ (.int .i64 u)) u y := by
  obtain ⟨h1, h2, f1, f2, h3, h4⟩ := h
  exact ⟨setS h1, setO (fun e => by injection e with _ e; omega) h2, setF f1, setF f2, h3.setCell (p := ⟨w.heap.size, 0, none⟩) (Nat.le_refl _) _, by simpa using h4⟩
theorem Bx.set1 {w W : World} {x y : Int} (h : Bx w W x y) (v : Int) : Bx w (W.setCell ⟨w.heap.size, 1, none⟩ (.int .i64 v)) x v := by
  obtain ⟨h1, h2, f1, f2, h3, h4⟩ := h
  exact ⟨setO (fun e => by injection e with _ e; omega) h1, setS h2, setF f1, setF f2, h3.setCell (p := ⟨w.heap.size, 1, none⟩) (Nat.le_refl _) _, by simpa using h4⟩
theorem bel3 {w w1 wr W : World} (hB1 : Below w.heap.size w w1) (hB : Below w1.heap.size w1 wr) (h : Below wr.heap.size wr W) : Below w.heap.size w W :=
  hB1.trans ((hB.trans (h.mono hB.size)).mono hB1.size)
theorem byte0 {t : ByteArray} {c : UInt8} {r : List UInt8} (h : t.data.toList = c :: r) (h0 : 0 < t.size) : t[0] = c := by
  have := Lib.data_getElem? t 0 h0
  rw [h] at this
  simpa using this.symm
theorem eqb {a c : UInt8} {n : Nat} (h : a = c) (hn : c.toNat = n) : ((a.toNat : Int) == (n : Int)) = true := by rw [h, hn]; exact beq_self_eq_true _
theorem neb {a c : UInt8} {n : Nat} (h : a ≠ c) (hn : c.toNat = n) : ((a.toNat : Int) == (n : Int)) = false := by
  rw [beq_eq_false_iff_ne]
  intro e
  exact h (Lib.byte_eq_of_toNat (by rw [hn]; exact e))
theorem ext1 {t : ByteArray} {c : UInt8} {r : List UInt8} (h : t.data.toList = c :: r) : (t.extract 1 t.size).data.toList = r := by rw [ext_end, h]; rfl
set_option maxRecDepth 100000 in
set_option maxHeartbeats 3200000 in
theorem specRsg_any (s : ByteArray) (w : World) (hs : s.size ≤ 1048576) (R : List (Int × Int)) (b : Bool) (hR : RgR s R b) :
    Calls Tryz.prog 28 #[.string s] w fun e w' => ResR w.heap.size R b e w' ∧ Below w.heap.size w w' := by
  obtain ⟨i0, hi, hz0, hz1, hz2⟩ := info_parts infoS
  have HSp := Lib.hid (l01Split_any s 32 w hs)
  have hll := splL_len_le 32 s.data.toList
  have hle := splL_le 32 s.data.toList
  have hne := splL_ne 32 s.data.toList
  rw [len_size] at hll hle
  have HR := Lib.hid hR
  have HNo := Lib.hid (fun j p h1 h2 => hR.no (Rg.not (s := s) (j := j) (p := p) h1 h2))
  generalize hls : splL 32 s.data.toList = ls at *
  have HLs := Lib.hid hls
  have HLe := Lib.hid hle
  clear hR hls hle
  go_enter Tryz.func28, Tryz.ntmps28
  go_wp2_with fail
  refine HSp.out.mono ?_
  rintro e w1 ⟨⟨A, c, ts, rfl, ho, hts⟩, hb1⟩
  obtain ⟨g, rfl, hg1, hg2⟩ := own_some ho (by match ls, hne with | _ :: _, _ => simp)
  have HT := Lib.hid hts
  have hn : ts.length = ls.length := by rw [← hts, List.length_map]
  have HCs := Lib.hid (fun (k : Nat) t ht => own_cellT (k := k) (t := t) ho ht)
  have HB1 := Lib.hid hb1
  have HO0 := Lib.hid (World.ownsRow_made (e := 86) (size := 2) w1 #[] 0 (Nat.le_refl _) (by decide) rfl)
  have hln : ls.length ≤ 1048577 := by omega
  obtain ⟨n, hnn⟩ : ∃ n, ls.length = n := ⟨_, rfl⟩
  rw [hnn] at hn hln ⊢
  have HN := Lib.hid hn
  have hg1 : g < w1.heap.size := hg2
  clear hts hb1 hnn ho hn hll
  go_wp2_with fail
  go_loopw [5, 6] (fun l i wr => ∃ (k cp : Nat) (B : Option Addr) (us : List (Int × Int)), k ≤ n ∧ i = .int .i64 k ∧ l = .slice B k cp ∧ wr.ownsRow w1.heap.size 86 2 (.slice B k cp) k (prs us) ∧ Hid (AllR rsE (ls.take k) us) ∧ Below w1.heap.size w1 wr) (fun _ i _ => n - (intOf i).toNat)
  case atStart => exact ⟨0, 0, _, [], Nat.zero_le _, rfl, rfl, by have := HO0.out; simpa [prs] using this, AllR.start, (Below.refl _ _).alloc (Nat.le_refl _) _⟩
  case round =>
    obtain ⟨k, cp, B, us, hkn, rfl, rfl, hown, HU, hbel⟩ := hrel
    have HO := Lib.hid hown
    have HB := Lib.hid hbel
    have HLF := Lib.hid hown.lt
    have hwr : w1.heap.size ≤ wr.heap.size := hbel.size
    clear hown
    by_cases hlt : k < n
    · obtain ⟨t, ht⟩ : ∃ t, ts[k]? = some t := ⟨ts[k]'(by have := HN.out; omega), List.getElem?_eq_getElem _⟩
      have hc : wr.cell? ⟨g, k, none⟩ = some (.string t) := (hbel.cell (p := ⟨g, k, none⟩) hg1).trans (HCs.out k t ht)
      have hp : ls[k]? = some t.data.toList := by rw [← HT.out, List.getElem?_map, ht]; rfl
      have HP := Lib.hid hp
      have hts : t.size ≤ 1048576 := by rw [← len_size]; exact Nat.le_trans (HLe.out _ (List.mem_of_getElem? hp)) hs
      clear ht hbel hp
      have hgw : g < wr.heap.size := by omega
      have HLt := Lib.hid (show k < ls.length by have := (List.getElem?_eq_some_iff.1 HP.out).1; exact this)
      have S0 := Lib.hid (Bx.start wr 1 0 86)
      -- what the round meets
      by_cases hk : k = 0
      · subst hk
        obtain ⟨x, ok, hrd, hx⟩ : ∃ x ok, rdT t = (x, ok) ∧ rd1 t.data.toList = if ok = true then some (1, x) else none := by
          rw [rdT_dd]; unfold rd1
          cases rdB t.data.toList
          · exact ⟨0, false, rfl, rfl⟩
          · exact ⟨_, true, rfl, rfl⟩
        have HNum := Lib.hid (fun W => l01Number_any t W hts)
        rw [hrd] at HNum
        have HX := Lib.hid (show rsE 0 t.data.toList = if ok = true then some (1, x) else none from hx)
        have S1 := S0
        clear hrd hx
        cases ok
        · obtain ⟨rfl, rfl⟩ := HNo.out 0 _ HP.out HX.out
          go_wp2_with fail
          refine (HNum.out _).mono ?_
          rintro e w2 ⟨rfl, hb2⟩
          have S2 := Lib.hid (S1.out.keep hb2)
          clear hb2
          go_wp2_with fail
          go_ret2
          exact ⟨⟨none, 0, rfl, World.ownsRow_nil ..⟩, bel3 HB1.out HB.out S2.out.bel⟩
        · have HX := Lib.hid (HX.out.trans (if_pos rfl))
          go_wp2_with fail
          refine (HNum.out _).mono ?_
          rintro e w2 ⟨rfl, hb2⟩
          have S2 := Lib.hid (S1.out.keep hb2)
          have S3 := Lib.hid (S2.out.set1 x)
          obtain ⟨c0, c1, f0, f1, _, hl2⟩ := S2.out
          obtain ⟨d0, d1, _⟩ := S3.out
          have HO3 := Lib.hid (own_below HO.out S3.out.bel)
          clear hb2
          go_wp2_with (first | (at_builtin; refine wpList_append_lies _ rfl (.tmp 54) (.tmp 56) 46 rfl w1.heap.size 86 i0 (.agg #[.int .i64 0, .int .i64 0]) 2 16 Tryz.underlying46 hi hz0 hz1 hz2 rfl (by decide) _ 0 (prs us) (by rfl) (HO3.out.alloc _) ⟨w2.heap.size, 0, none⟩ 1 1 [.int .i64 (1), .int .i64 x] (by rfl) rfl (fun j u hu => newcell (by simp) hu) (by simp [Value.oneCell']) (by decide) (by show 0 + 1 ≤ 9223372036854775807; omega) (by omega) (by simp; omega) (w2.heap.size + 1) (by simp) ?_; intro g' cap1 wn hown1 hgrow hat hlt1))
          go_roundw
          case rel =>
            refine ⟨0 + 1, cap1, _, us ++ [(1, x)], by omega, by go_num, rfl, ?_, HU.out.step HP.out HX.out, ?_⟩
            · rw [show prs (us ++ [(1, x)]) = prs us ++ [.int .i64 (1), .int .i64 x] from by rw [prs_append]; rfl]; exact hown1
            · exact ((HB.out.trans (S3.out.bel.mono hwr)).alloc (by have := S3.out.bel.size; omega) _).grown hgrow (by have := S3.out.bel.size; simp; omega) (fun j hj => (HLF.out j hj).1)
          case measure => simp [intOf]; omega
      · have hk0 : ((0 : Int) < (k : Int)) := by omega
        have HK := Lib.hid hk
        clear hk
        match hpp : t.data.toList with
        | [] =>
          have he : (t.toList == []) = true := by rw [ByteArray.toList_eq, hpp]; rfl
          obtain ⟨rfl, rfl⟩ := HNo.out k _ HP.out (by unfold rsE; rw [if_neg HK.out, hpp]; rfl)
          clear hpp
          go_wp2_with fail
          go_ret2
          exact ⟨⟨none, 0, rfl, World.ownsRow_nil ..⟩, bel3 HB1.out HB.out S0.out.bel⟩
        | ch :: r =>
          have he : (t.toList == []) = false := by rw [ByteArray.toList_eq, hpp]; rfl
          have h0 : 0 < t.size := by rw [← len_size, hpp]; simp
          have hb0 := byte0 hpp h0
          have hxd := ext1 hpp
          by_cases h43 : ch = 43
          · have hq1 : (t[0].toNat : Int) = 43 := by rw [hb0, h43]; rfl
            subst h43
            have hlr : t.data.toList.length = r.length + 1 := by rw [hpp]; rfl
            rw [len_size] at hlr
            have HNum := Lib.hid (fun W => l01Number_any (t.extract 1 t.size) W (by rw [← len_size, hxd]; omega))
            clear hlr
            obtain ⟨x, ok, hrd, hx⟩ : ∃ x ok, rdT (t.extract 1 t.size) = (x, ok) ∧ rs1 t.data.toList = if ok = true then some (1, x) else none := by
              rw [rdT_dd, hpp, hxd, rs1_p]
              cases rdB r
              · exact ⟨0, false, rfl, rfl⟩
              · exact ⟨_, true, rfl, rfl⟩
            rw [hrd] at HNum
            have HX := Lib.hid (show rsE k t.data.toList = if ok = true then some (1, x) else none by unfold rsE; rw [if_neg HK.out]; exact hx)
            have S1 := Lib.hid (S0.out)
            obtain ⟨z0, z1, zf0, zf1, _, zl⟩ := S0.out
            clear hrd hx hpp hxd hb0
            try clear h43
            cases ok
            · obtain ⟨rfl, rfl⟩ := HNo.out k _ HP.out HX.out
              go_wp2_with fail
              refine (HNum.out _).mono ?_
              rintro e w2 ⟨rfl, hb2⟩
              have S2 := Lib.hid (S1.out.keep hb2)
              clear hb2
              go_wp2_with fail
              go_ret2
              exact ⟨⟨none, 0, rfl, World.ownsRow_nil ..⟩, bel3 HB1.out HB.out S2.out.bel⟩
            · have HX := Lib.hid (HX.out.trans (if_pos rfl))
              go_wp2_with fail
              refine (HNum.out _).mono ?_
              rintro e w2 ⟨rfl, hb2⟩
              have S2 := Lib.hid (S1.out.keep hb2)
              have S3 := Lib.hid (S2.out.set1 x)
              obtain ⟨c0, c1, f0, f1, _, hl2⟩ := S2.out
              obtain ⟨d0, d1, _⟩ := S3.out
              have HO3 := Lib.hid (own_below HO.out S3.out.bel)
              clear hb2
              go_wp2_with (first | (at_builtin; refine wpList_append_lies _ rfl (.tmp 54) (.tmp 56) 46 rfl w1.heap.size 86 i0 (.agg #[.int .i64 0, .int .i64 0]) 2 16 Tryz.underlying46 hi hz0 hz1 hz2 rfl (by decide) _ k (prs us) (by rfl) (HO3.out.alloc _) ⟨w2.heap.size, 0, none⟩ 1 1 [.int .i64 (1), .int .i64 x] (by rfl) rfl (fun j u hu => newcell (by simp) hu) (by simp [Value.oneCell']) (by decide) (by show k + 1 ≤ 9223372036854775807; omega) (by omega) (by simp; omega) (w2.heap.size + 1) (by simp) ?_; intro g' cap1 wn hown1 hgrow hat hlt1))
              go_roundw
              case rel =>
                refine ⟨k + 1, cap1, _, us ++ [(1, x)], by omega, by go_num, rfl, ?_, HU.out.step HP.out HX.out, ?_⟩
                · rw [show prs (us ++ [(1, x)]) = prs us ++ [.int .i64 (1), .int .i64 x] from by rw [prs_append]; rfl]; exact hown1
                · exact ((HB.out.trans (S3.out.bel.mono hwr)).alloc (by have := S3.out.bel.size; omega) _).grown hgrow (by have := S3.out.bel.size; simp; omega) (fun j hj => (HLF.out j hj).1)
              case measure => simp [intOf]; omega
          · have hq1 : ((t[0].toNat : Int) == 43) = false := neb (a := t[0]) (c := 43) (n := 43) (by rw [hb0]; exact h43) rfl
            have hq1b : ((t[0].toNat : Int) != 43) = true := by rw [bne, hq1]; rfl
            have hq1c : ¬ (t[0].toNat : Int) = 43 := beq_eq_false_iff_ne.1 hq1
            by_cases h45 : ch = 45
            · have hq2 : (t[0].toNat : Int) = 45 := by rw [hb0, h45]; rfl
              clear hq1 hq1b hq1c
              subst h45
              have hlr : t.data.toList.length = r.length + 1 := by rw [hpp]; rfl
              rw [len_size] at hlr
              have HNum := Lib.hid (fun W => l01Number_any (t.extract 1 t.size) W (by rw [← len_size, hxd]; omega))
              clear hlr
              obtain ⟨x, ok, hrd, hx⟩ : ∃ x ok, rdT (t.extract 1 t.size) = (x, ok) ∧ rs1 t.data.toList = if ok = true then some (-1, x) else none := by
                rw [rdT_dd, hpp, hxd, rs1_m]
                cases rdB r
                · exact ⟨0, false, rfl, rfl⟩
                · exact ⟨_, true, rfl, rfl⟩
              rw [hrd] at HNum
              have HX := Lib.hid (show rsE k t.data.toList = if ok = true then some (-1, x) else none by unfold rsE; rw [if_neg HK.out]; exact hx)
              have S1 := Lib.hid (Bx.start wr (-1) 0 86)
              obtain ⟨z0, z1, zf0, zf1, _, zl⟩ := S0.out
              clear hrd hx hpp hxd hb0
              try clear h43
              cases ok
              · obtain ⟨rfl, rfl⟩ := HNo.out k _ HP.out HX.out
                go_wp2_with fail
                refine (HNum.out _).mono ?_
                rintro e w2 ⟨rfl, hb2⟩
                have S2 := Lib.hid (S1.out.keep hb2)
                clear hb2
                go_wp2_with fail
                go_ret2
                exact ⟨⟨none, 0, rfl, World.ownsRow_nil ..⟩, bel3 HB1.out HB.out S2.out.bel⟩
              · have HX := Lib.hid (HX.out.trans (if_pos rfl))
                go_wp2_with fail
                refine (HNum.out _).mono ?_
                rintro e w2 ⟨rfl, hb2⟩
                have S2 := Lib.hid (S1.out.keep hb2)
                have S3 := Lib.hid (S2.out.set1 x)
                obtain ⟨c0, c1, f0, f1, _, hl2⟩ := S2.out
                obtain ⟨d0, d1, _⟩ := S3.out
                have HO3 := Lib.hid (own_below HO.out S3.out.bel)
                clear hb2
                go_wp2_with (first | (at_builtin; refine wpList_append_lies _ rfl (.tmp 54) (.tmp 56) 46 rfl w1.heap.size 86 i0 (.agg #[.int .i64 0, .int .i64 0]) 2 16 Tryz.underlying46 hi hz0 hz1 hz2 rfl (by decide) _ k (prs us) (by rfl) (HO3.out.alloc _) ⟨w2.heap.size, 0, none⟩ 1 1 [.int .i64 (-1), .int .i64 x] (by rfl) rfl (fun j u hu => newcell (by simp) hu) (by simp [Value.oneCell']) (by decide) (by show k + 1 ≤ 9223372036854775807; omega) (by omega) (by simp; omega) (w2.heap.size + 1) (by simp) ?_; intro g' cap1 wn hown1 hgrow hat hlt1))
                go_roundw
                case rel =>
                  refine ⟨k + 1, cap1, _, us ++ [(-1, x)], by omega, by go_num, rfl, ?_, HU.out.step HP.out HX.out, ?_⟩
                  · rw [show prs (us ++ [(-1, x)]) = prs us ++ [.int .i64 (-1), .int .i64 x] from by rw [prs_append]; rfl]; exact hown1
                  · exact ((HB.out.trans (S3.out.bel.mono hwr)).alloc (by have := S3.out.bel.size; omega) _).grown hgrow (by have := S3.out.bel.size; simp; omega) (fun j hj => (HLF.out j hj).1)
                case measure => simp [intOf]; omega
            · have hq2 : ((t[0].toNat : Int) == 45) = false := neb (a := t[0]) (c := 45) (n := 45) (by rw [hb0]; exact h45) rfl
              have hq2b : ((t[0].toNat : Int) != 45) = true := by rw [bne, hq2]; rfl
              have hq2c : ¬ (t[0].toNat : Int) = 45 := beq_eq_false_iff_ne.1 hq2
              obtain ⟨rfl, rfl⟩ := HNo.out k _ HP.out (by unfold rsE; rw [if_neg HK.out, hpp]; exact rs1_o r h43 h45)
              clear hpp hxd hb0 h43 h45
              go_wp2_with fail
              go_ret2
              exact ⟨⟨none, 0, rfl, World.ownsRow_nil ..⟩, bel3 HB1.out HB.out S0.out.bel⟩
    · obtain rfl : n = k := by omega
      clear hlt
      have hA : AllR rsE ls us := by
        have h := HU.out
        have hl : ls.length = n := by rw [← HN.out, ← HT.out, List.length_map]
        rw [← hl] at h; exact h.all
      have HOk := Lib.hid (fun W h => l04Ok_any B n cp us W h)
      have HPr := Lib.hid (PRow.of_own HO.out (by omega) (hA.rng rsE_rng))
      cases hv : sgnB us
      · obtain ⟨rfl, rfl⟩ := HR.out.no (fun zs hz => by
          have e : zs = us := by
            refine AllR.uniq hz.1 ?_
            rw [HLs.out]; exact hA
          rw [e] at hz
          have := hz.2
          rw [hv] at this; cases this)
        rw [hv] at HOk
        clear hv hA hbel
        go_wp2_with fail
        refine (HOk.out _ HPr.out).mono ?_
        rintro e w2 ⟨rfl, rfl⟩
        go_wp2_with fail
        go_ret2
        exact ⟨⟨none, 0, rfl, World.ownsRow_nil ..⟩, bel3 HB1.out HB.out (Below.refl _ _)⟩
      · obtain ⟨rfl, rfl⟩ := HR.out.yes (zs := us) ⟨by rw [HLs.out]; exact hA, hv⟩
        rw [hv] at HOk
        have hl := own_lenP HO.out
        clear hv hA hbel
        subst hl
        go_wp2_with fail
        refine (HOk.out _ HPr.out).mono ?_
        rintro e w2 ⟨rfl, rfl⟩
        go_wp2_with fail
        go_ret2
        exact ⟨⟨B, cp, rfl, own_base HO.out HB1.out.size⟩, bel3 HB1.out HB.out (Below.refl _ _)⟩
theorem cutP_hit (t : ByteArray) (c : UInt8) (r : List UInt8) (h : t.data.toList = c :: r) (w : World) :
    Calls Tryz.prog 47 #[.string t, .string ⟨#[c]⟩] w fun e w' => e = .returned (.tuple #[.string ⟨r.toArray⟩, .bool true]) ∧ w' = w := by
  refine (Tryz.strings_CutPrefix t ⟨#[c]⟩ w).mono ?_
  rintro e w' ⟨h1, h2⟩
  have e1 : Lib.hasPrefix t.data.toList (⟨#[c]⟩ : ByteArray).data.toList = true := by rw [h]; simp [Lib.hasPrefix]
  have e2 : Lib.trimPrefix t.data.toList (⟨#[c]⟩ : ByteArray).data.toList = r := by unfold Lib.trimPrefix; rw [e1, if_pos rfl, h]; rfl
  rw [e1, e2] at h1
  exact ⟨h1, h2⟩
theorem cutP_miss (t : ByteArray) (c : UInt8) (h : ¬ ∃ r, t.data.toList = c :: r) (w : World) :
    Calls Tryz.prog 47 #[.string t, .string ⟨#[c]⟩] w fun e w' => e = .returned (.tuple #[.string t, .bool false]) ∧ w' = w := by
  refine (Tryz.strings_CutPrefix t ⟨#[c]⟩ w).mono ?_
  rintro e w' ⟨h1, h2⟩
  have e1 : Lib.hasPrefix t.data.toList (⟨#[c]⟩ : ByteArray).data.toList = false := by
    match hq : t.data.toList with
    | [] => simp [Lib.hasPrefix]
    | b :: r =>
      have : b ≠ c := fun e => h ⟨r, by rw [hq, e]⟩
      show (c == b && List.isPrefixOf [] r) = false
      rw [beq_eq_false_iff_ne.2 (Ne.symm this)]; rfl
  have e2 : Lib.trimPrefix t.data.toList (⟨#[c]⟩ : ByteArray).data.toList = t.data.toList := by unfold Lib.trimPrefix; rw [e1, if_neg (by simp)]
  rw [e1, e2] at h1
  exact ⟨by rw [h1, show (⟨t.data.toList.toArray⟩ : ByteArray) = t from str_ext (by simp)], h2⟩
theorem rs_rl {j : Nat} {p : List UInt8} {z : Int × Int} (h : rsE j p = some z) : rlE j p = some z := by
  unfold rsE at h
  unfold rlE
  by_cases hj : j = 0
  · rw [if_pos hj] at h ⊢; exact h
  · rw [if_neg hj] at h ⊢
    have := rs_sign h
    rw [rl_rs this (by unfold sgB; split; exact .inr rfl; exact .inl rfl)]; exact h
theorem AllR.loose {ls : List (List UInt8)} {zs : List (Int × Int)} (h : AllR rsE ls zs) : AllR rlE ls zs := by
  refine ⟨h.1, fun j p hp => ?_⟩
  have h1 := h.2 j p hp
  have hl : j < zs.length := by rw [h.1]; exact (List.getElem?_eq_some_iff.1 hp).1
  rw [List.getElem?_eq_getElem hl] at h1 ⊢
  exact rs_rl h1
set_option maxRecDepth 100000 in
set_option maxHeartbeats 3200000 in
theorem implRsg_any (s : ByteArray) (w : World) (hs : s.size ≤ 1048576) (hd : Dr w) (he : Er w) (hm : Mx w) (R : List (Int × Int)) (b : Bool) (hR : RgR s R b) :
    Calls Tryz.prog 26 #[.string s] w fun e w' => ResR w.heap.size R b e w' ∧ Below w.heap.size w w' := by
  obtain ⟨i0, hi, hz0, hz1, hz2⟩ := info_parts infoS
  have HSp := Lib.hid (splitAny s 32 w hs hm)
  have hll := splL_len_le 32 s.data.toList
  have hle := splL_le 32 s.data.toList
  rw [len_size] at hll hle
  have HR := Lib.hid hR
  have HTx := Lib.hid (fun zs => rl_text (s := s) (zs := zs))
  have HNo := Lib.hid (fun j p h1 h2 => hR.no (Rg.not (s := s) (j := j) (p := p) h1 h2))
  generalize hls : splL 32 s.data.toList = ls at *
  have HLs := Lib.hid hls
  have HLe := Lib.hid hle
  have HD := Lib.hid hd
  have HE := Lib.hid he
  clear hR hls hle hd he hm
  go_enter Tryz.func26, Tryz.ntmps26
  go_wp2_with fail
  refine HSp.out.mono ?_
  rintro e w1 ⟨ts, rfl, hts, hcs, hb1, hg1⟩
  have HT := Lib.hid hts
  have hn : ts.length = ls.length := by rw [← hts, List.length_map]
  have HCs := Lib.hid hcs
  have HB1 := Lib.hid hb1
  have hln : ts.length ≤ 1048577 := by omega
  obtain ⟨n, hnn⟩ : ∃ n, ts.length = n := ⟨_, rfl⟩
  rw [hnn] at hn hln ⊢
  have HN := Lib.hid hnn
  clear hts hcs hb1 hnn hn hll
  go_wp2_with fail
  go_loopw [4, 15] (fun l i wr => ∃ (k cp : Nat) (B : Option Addr) (us : List (Int × Int)), k ≤ n ∧ i = .int .i64 k ∧ l = .slice B k cp ∧ wr.ownsRow w1.heap.size 86 2 (.slice B k cp) k (prs us) ∧ Hid (AllR rlE (ls.take k) us) ∧ Below w1.heap.size w1 wr) (fun _ i _ => n - (intOf i).toNat)
  case atStart => exact ⟨0, 0, _, [], Nat.zero_le _, rfl, rfl, World.ownsRow_nil .., AllR.start, Below.refl _ _⟩
  case round =>
    obtain ⟨k, cp, B, us, hkn, rfl, rfl, hown, HU, hbel⟩ := hrel
    have HO := Lib.hid hown
    have HB := Lib.hid hbel
    have HLF := Lib.hid hown.lt
    have hwr : w1.heap.size ≤ wr.heap.size := hbel.size
    clear hown
    by_cases hlt : k < n
    · obtain ⟨t, ht⟩ : ∃ t, ts[k]? = some t := ⟨ts[k]'(by have := HN.out; omega), List.getElem?_eq_getElem _⟩
      have hc : wr.cell? ⟨w.heap.size, k, none⟩ = some (.string t) := (hbel.cell (p := ⟨w.heap.size, k, none⟩) hg1).trans (HCs.out k t ht)
      have hp : ls[k]? = some t.data.toList := by rw [← HT.out, List.getElem?_map, ht]; rfl
      have HP := Lib.hid hp
      have hts : t.size ≤ 1048576 := by rw [← len_size]; exact Nat.le_trans (HLe.out _ (List.mem_of_getElem? hp)) hs
      clear ht hbel hp
      have hgw : w.heap.size < wr.heap.size := by omega
      have S0 := Lib.hid (Bx.start wr 1 0 86)
      have HDB : ∀ W, Below wr.heap.size wr W → Dr W := fun W h => (HD.out.below (bel3 HB1.out HB.out h))
      have HEB : ∀ W, Below wr.heap.size wr W → Er W := fun W h => (HE.out.below (bel3 HB1.out HB.out h))
      have HDB := Lib.hid HDB
      have HEB := Lib.hid HEB
      -- what the round meets
      by_cases hk : k = 0
      · subst hk
        obtain ⟨x, ok, hrd, hx⟩ : ∃ x ok, rdT t = (x, ok) ∧ rd1 t.data.toList = if ok = true then some (1, x) else none := by
          rw [rdT_dd]; unfold rd1
          cases rdB t.data.toList
          · exact ⟨0, false, rfl, rfl⟩
          · exact ⟨_, true, rfl, rfl⟩
        have HNum := Lib.hid (fun W d e => readDecimal_any t W hts d e)
        rw [hrd] at HNum
        have HX := Lib.hid (show rlE 0 t.data.toList = if ok = true then some (1, x) else none from hx)
        have S1 := S0
        clear hrd hx
        cases ok
        · obtain ⟨rfl, rfl⟩ := HNo.out 0 _ HP.out (rl_none HX.out)
          go_wp2_with fail
          refine (HNum.out _ (HDB.out _ S1.out.bel) (HEB.out _ S1.out.bel)).mono ?_
          rintro e w2 ⟨rfl, hb2⟩
          have S2 := Lib.hid (S1.out.keep hb2)
          clear hb2
          go_wp2_with fail
          go_ret2
          exact ⟨⟨none, 0, rfl, World.ownsRow_nil ..⟩, bel3 HB1.out HB.out S2.out.bel⟩
        · have HX := Lib.hid (HX.out.trans (if_pos rfl))
          go_wp2_with fail
          refine (HNum.out _ (HDB.out _ S1.out.bel) (HEB.out _ S1.out.bel)).mono ?_
          rintro e w2 ⟨rfl, hb2⟩
          have S2 := Lib.hid (S1.out.keep hb2)
          have S3 := Lib.hid (S2.out.set1 x)
          obtain ⟨c0, c1, f0, f1, _, hl2⟩ := S2.out
          obtain ⟨d0, d1, _⟩ := S3.out
          have HO3 := Lib.hid (own_below HO.out S3.out.bel)
          clear hb2
          go_wp2_with (first | (at_builtin; refine wpList_append_lies _ rfl (.tmp 46) (.tmp 48) 46 rfl w1.heap.size 86 i0 (.agg #[.int .i64 0, .int .i64 0]) 2 16 Tryz.underlying46 hi hz0 hz1 hz2 rfl (by decide) _ 0 (prs us) (by rfl) (HO3.out.alloc _) ⟨w2.heap.size, 0, none⟩ 1 1 [.int .i64 (1), .int .i64 x] (by rfl) rfl (fun j u hu => newcell (by simp) hu) (by simp [Value.oneCell']) (by decide) (by show 0 + 1 ≤ 9223372036854775807; omega) (by omega) (by simp; omega) (w2.heap.size + 1) (by simp) ?_; intro g' cap1 wn hown1 hgrow hat hlt1))
          go_roundw
          case rel =>
            refine ⟨0 + 1, cap1, _, us ++ [(1, x)], by omega, by go_num, rfl, ?_, HU.out.step HP.out HX.out, ?_⟩
            · rw [show prs (us ++ [(1, x)]) = prs us ++ [.int .i64 (1), .int .i64 x] from by rw [prs_append]; rfl]; exact hown1
            · exact ((HB.out.trans (S3.out.bel.mono hwr)).alloc (by have := S3.out.bel.size; omega) _).grown hgrow (by have := S3.out.bel.size; simp; omega) (fun j hj => (HLF.out j hj).1)
          case measure => simp [intOf]; omega
      · have hk0 : ((0 : Int) < (k : Int)) := by omega
        have HK := Lib.hid hk
        clear hk
        by_cases h43 : ∃ r, t.data.toList = 43 :: r
        · obtain ⟨r, hpp⟩ := h43
          have HC1 := Lib.hid (fun W => cutP_hit t 43 r hpp W)
          obtain ⟨u, hu⟩ : ∃ u : ByteArray, u = ⟨r.toArray⟩ := ⟨_, rfl⟩
          rw [← hu] at HC1
          have hud : u.data.toList = r := by subst hu; simp
          have hlr : t.data.toList.length = r.length + 1 := by rw [hpp]; rfl
          rw [len_size] at hlr
          have hus : u.size ≤ 1048576 := by have := len_size u; rw [hud] at this; omega
          obtain ⟨x, ok, hrd, hx⟩ : ∃ x ok, rdT u = (x, ok) ∧ rl1 t.data.toList = if ok = true then some (1, x) else none := by
            rw [rdT_dd, hpp, hud, rl1_p]
            cases rdB r
            · exact ⟨0, false, rfl, rfl⟩
            · exact ⟨_, true, rfl, rfl⟩
          have HNum := Lib.hid (fun W d e => readDecimal_any u W hus d e)
          rw [hrd] at HNum
          have HX := Lib.hid (show rlE k t.data.toList = if ok = true then some (1, x) else none by unfold rlE; rw [if_neg HK.out]; exact hx)
          have S1 := S0
          obtain ⟨z0, z1, zf0, zf1, _, zl⟩ := S0.out
          clear hrd hx hpp hud hu hlr
          cases ok
          · obtain ⟨rfl, rfl⟩ := HNo.out k _ HP.out (rl_none HX.out)
            go_wp2_with fail
            refine (HC1.out _).mono ?_
            rintro e wz ⟨rfl, hw0⟩
            obtain rfl := hw0.symm
            clear hw0
            go_wp2_with fail
            refine (HNum.out _ (HDB.out _ S1.out.bel) (HEB.out _ S1.out.bel)).mono ?_
            rintro e w2 ⟨rfl, hb2⟩
            have S2 := Lib.hid (S1.out.keep hb2)
            clear hb2
            go_wp2_with fail
            go_ret2
            exact ⟨⟨none, 0, rfl, World.ownsRow_nil ..⟩, bel3 HB1.out HB.out S2.out.bel⟩
          · have HX := Lib.hid (HX.out.trans (if_pos rfl))
            go_wp2_with fail
            refine (HC1.out _).mono ?_
            rintro e wz ⟨rfl, hw0⟩
            obtain rfl := hw0.symm
            clear hw0
            go_wp2_with fail
            refine (HNum.out _ (HDB.out _ S1.out.bel) (HEB.out _ S1.out.bel)).mono ?_
            rintro e w2 ⟨rfl, hb2⟩
            have S2 := Lib.hid (S1.out.keep hb2)
            have S3 := Lib.hid (S2.out.set1 x)
            obtain ⟨c0, c1, f0, f1, _, hl2⟩ := S2.out
            obtain ⟨d0, d1, _⟩ := S3.out
            have HO3 := Lib.hid (own_below HO.out S3.out.bel)
            clear hb2
            go_wp2_with (first | (at_builtin; refine wpList_append_lies _ rfl (.tmp 46) (.tmp 48) 46 rfl w1.heap.size 86 i0 (.agg #[.int .i64 0, .int .i64 0]) 2 16 Tryz.underlying46 hi hz0 hz1 hz2 rfl (by decide) _ k (prs us) (by rfl) (HO3.out.alloc _) ⟨w2.heap.size, 0, none⟩ 1 1 [.int .i64 (1), .int .i64 x] (by rfl) rfl (fun j u hu => newcell (by simp) hu) (by simp [Value.oneCell']) (by decide) (by show k + 1 ≤ 9223372036854775807; omega) (by omega) (by simp; omega) (w2.heap.size + 1) (by simp) ?_; intro g' cap1 wn hown1 hgrow hat hlt1))
            go_roundw
            case rel =>
              refine ⟨k + 1, cap1, _, us ++ [(1, x)], by omega, by go_num, rfl, ?_, HU.out.step HP.out HX.out, ?_⟩
              · rw [show prs (us ++ [(1, x)]) = prs us ++ [.int .i64 (1), .int .i64 x] from by rw [prs_append]; rfl]; exact hown1
              · exact ((HB.out.trans (S3.out.bel.mono hwr)).alloc (by have := S3.out.bel.size; omega) _).grown hgrow (by have := S3.out.bel.size; simp; omega) (fun j hj => (HLF.out j hj).1)
            case measure => simp [intOf]; omega
        · have HC1 := Lib.hid (fun W => cutP_miss t 43 h43 W)
          obtain ⟨u, hC2, hus, hx0⟩ : ∃ u : ByteArray, (∀ W, Calls Tryz.prog 47 #[.string t, .string ⟨#[45]⟩] W fun e w' => (∃ q, e = .returned (.tuple #[.string u, .bool q])) ∧ w' = W) ∧ u.size ≤ 1048576 ∧ rl1 t.data.toList = if rdB u.data.toList = true then some (-1, valI u.data.toList) else none := by
            by_cases h45 : ∃ r, t.data.toList = 45 :: r
            · obtain ⟨r, hpp⟩ := h45
              have hlr : t.data.toList.length = r.length + 1 := by rw [hpp]; rfl
              rw [len_size] at hlr
              have hud : (⟨r.toArray⟩ : ByteArray).data.toList = r := by simp
              refine ⟨⟨r.toArray⟩, fun W => (cutP_hit t 45 r hpp W).mono (fun e w' h => ⟨⟨_, h.1⟩, h.2⟩), by rw [← len_size, hud]; omega, by rw [hpp, hud, rl1_m]⟩
            · refine ⟨t, fun W => (cutP_miss t 45 h45 W).mono (fun e w' h => ⟨⟨_, h.1⟩, h.2⟩), hts, ?_⟩
              match hq : t.data.toList with
              | [] =>
                rw [if_neg]; rfl
                intro h; exact (rdB_form h).2.2.2.1 rfl
              | ch :: r => exact rl1_o r (fun e => h43 ⟨r, by rw [hq, e]⟩) (fun e => h45 ⟨r, by rw [hq, e]⟩)
          have HC2 := Lib.hid hC2
          obtain ⟨x, ok, hrd, hx⟩ : ∃ x ok, rdT u = (x, ok) ∧ rl1 t.data.toList = if ok = true then some (-1, x) else none := by
            rw [rdT_dd, hx0]
            cases rdB u.data.toList
            · exact ⟨0, false, rfl, rfl⟩
            · exact ⟨_, true, rfl, rfl⟩
          have HNum := Lib.hid (fun W d e => readDecimal_any u W hus d e)
          rw [hrd] at HNum
          have HX := Lib.hid (show rlE k t.data.toList = if ok = true then some (-1, x) else none by unfold rlE; rw [if_neg HK.out]; exact hx)
          have S1 := Lib.hid (Bx.start wr (-1) 0 86)
          obtain ⟨z0, z1, zf0, zf1, _, zl⟩ := S0.out
          clear hrd hx hC2 hx0 h43
          cases ok
          · obtain ⟨rfl, rfl⟩ := HNo.out k _ HP.out (rl_none HX.out)
            go_wp2_with fail
            refine (HC1.out _).mono ?_
            rintro e wz ⟨rfl, hw0⟩
            obtain rfl := hw0.symm
            clear hw0
            go_wp2_with fail
            refine (HC2.out _).mono ?_
            rintro e wz ⟨⟨q, rfl⟩, hw0⟩
            obtain rfl := hw0.symm
            clear hw0
            go_wp2_with fail
            refine (HNum.out _ (HDB.out _ S1.out.bel) (HEB.out _ S1.out.bel)).mono ?_
            rintro e w2 ⟨rfl, hb2⟩
            have S2 := Lib.hid (S1.out.keep hb2)
            clear hb2
            go_wp2_with fail
            go_ret2
            exact ⟨⟨none, 0, rfl, World.ownsRow_nil ..⟩, bel3 HB1.out HB.out S2.out.bel⟩
          · have HX := Lib.hid (HX.out.trans (if_pos rfl))
            go_wp2_with fail
            refine (HC1.out _).mono ?_
            rintro e wz ⟨rfl, hw0⟩
            obtain rfl := hw0.symm
            clear hw0
            go_wp2_with fail
            refine (HC2.out _).mono ?_
            rintro e wz ⟨⟨q, rfl⟩, hw0⟩
            obtain rfl := hw0.symm
            clear hw0
            go_wp2_with fail
            refine (HNum.out _ (HDB.out _ S1.out.bel) (HEB.out _ S1.out.bel)).mono ?_
            rintro e w2 ⟨rfl, hb2⟩
            have S2 := Lib.hid (S1.out.keep hb2)
            have S3 := Lib.hid (S2.out.set1 x)
            obtain ⟨c0, c1, f0, f1, _, hl2⟩ := S2.out
            obtain ⟨d0, d1, _⟩ := S3.out
            have HO3 := Lib.hid (own_below HO.out S3.out.bel)
            clear hb2
            go_wp2_with (first | (at_builtin; refine wpList_append_lies _ rfl (.tmp 46) (.tmp 48) 46 rfl w1.heap.size 86 i0 (.agg #[.int .i64 0, .int .i64 0]) 2 16 Tryz.underlying46 hi hz0 hz1 hz2 rfl (by decide) _ k (prs us) (by rfl) (HO3.out.alloc _) ⟨w2.heap.size, 0, none⟩ 1 1 [.int .i64 (-1), .int .i64 x] (by rfl) rfl (fun j u hu => newcell (by simp) hu) (by simp [Value.oneCell']) (by decide) (by show k + 1 ≤ 9223372036854775807; omega) (by omega) (by simp; omega) (w2.heap.size + 1) (by simp) ?_; intro g' cap1 wn hown1 hgrow hat hlt1))
            go_roundw
            case rel =>
              refine ⟨k + 1, cap1, _, us ++ [(-1, x)], by omega, by go_num, rfl, ?_, HU.out.step HP.out HX.out, ?_⟩
              · rw [show prs (us ++ [(-1, x)]) = prs us ++ [.int .i64 (-1), .int .i64 x] from by rw [prs_append]; rfl]; exact hown1
              · exact ((HB.out.trans (S3.out.bel.mono hwr)).alloc (by have := S3.out.bel.size; omega) _).grown hgrow (by have := S3.out.bel.size; simp; omega) (fun j hj => (HLF.out j hj).1)
            case measure => simp [intOf]; omega
    · obtain rfl : n = k := by omega
      clear hlt
      have hA : AllR rlE ls us := by
        have h := HU.out
        have hl : ls.length = n := by rw [← HN.out, ← HT.out, List.length_map]
        rw [← hl] at h; exact h.all
      have HBw := HB1.out.trans (HB.out.mono HB1.out.size)
      have HSt := Lib.hid (implSgt_any B n cp us wr (PRow.of_own HO.out (by omega) (hA.rng rlE_rng)) (own_cap HO.out) (HD.out.below HBw))
      have hT := HTx.out us hA
      by_cases hq : sgS us = s
      · obtain ⟨rfl, rfl⟩ := HR.out.yes (zs := us) (hT.1 hq)
        have htl := tl_t hq
        have hl := own_lenP HO.out
        have HBw := Lib.hid HBw
        clear hA hbel hT hq
        subst hl
        go_wp2_with fail
        refine HSt.out.mono ?_
        rintro e w2 ⟨rfl, hb2⟩
        have HO2 := Lib.hid (own_below HO.out hb2)
        have HB2 := Lib.hid (bel3 HB1.out HB.out hb2)
        clear hb2
        go_wp2_with fail
        go_ret2
        exact ⟨⟨B, cp, rfl, own_base HO2.out HB1.out.size⟩, HB2.out⟩
      · obtain ⟨rfl, rfl⟩ := HR.out.no (fun zs hz => hq (by
          have e : zs = us := by
            refine AllR.uniq (E := rlE) (ls := ls) ?_ hA
            have h1 := hz.1
            rw [HLs.out] at h1
            exact h1.loose
          rw [e] at hz
          exact hT.2 hz))
        have htl := tl_f hq
        have HBw := Lib.hid HBw
        clear hA hbel hT hq
        go_wp2_with fail
        refine HSt.out.mono ?_
        rintro e w2 ⟨rfl, hb2⟩
        have HB2 := Lib.hid (bel3 HB1.out HB.out hb2)
        clear hb2
        go_wp2_with fail
        go_ret2
        exact ⟨⟨none, 0, rfl, World.ownsRow_nil ..⟩, HB2.out⟩
end Go.Proofs.YtlpglibnjmjjkaaGreatDoor
namespace Go.Proofs.YtlpglibnjmjjkaaGreatDoor
open Go.RowKit
set_option linter.unusedVariables false
set_option linter.unusedSimpArgs false
attribute [local go_sem ↓] Go.wp_at_zero Go.wp_at_succ

theorem RgR.len {s : ByteArray} {R : List (Int × Int)} {b : Bool} (h : RgR s R b) : R.length ≤ 1048577 := by
  rcases h with ⟨_, h⟩ | ⟨_, h, _⟩
  · have := (sgn_in h.2).2.1; omega
  · rw [h]; simp
theorem RgR.rng {s : ByteArray} {R : List (Int × Int)} {b : Bool} (h : RgR s R b) : ∀ z ∈ R, Rng z.1 ∧ Rng z.2 := by
  rcases h with ⟨_, h⟩ | ⟨_, h, _⟩
  · exact h.1.rng rsE_rng
  · rw [h]; intro z hz; cases hz
end Go.Proofs.YtlpglibnjmjjkaaGreatDoor
namespace Go.Proofs.YtlpglibnjmjjkaaGreatDoor
open Go.RowKit
set_option linter.unusedVariables false
set_option linter.unusedSimpArgs false
attribute [local go_sem ↓] Go.wp_at_zero Go.wp_at_succ

theorem rg_text {zs : List (Int × Int)} (h : sgnB zs = true) : Rg (sgS zs) zs := by
  obtain ⟨n1, n2, _⟩ := sgn_len h
  have hin := (sgn_in h).2.2
  have h0 : ∀ k z, zs[k]? = some z → sgnE k z = true := fun k z hz => by
    have hh := h
    unfold sgnB at hh
    rw [Bool.and_eq_true] at hh
    have := allK_at sgnE zs 0 k z hh.2 hz
    rwa [Nat.zero_add] at this
  have hd : (sgS zs).data.toList = sgL zs := by rw [show sgS zs = ⟨(sgL zs).toArray⟩ from if_pos h, data_mk]
  have hrd : ∀ z ∈ zs, rdB (Lib.itoa z.2) = true := fun z hz => rdB_itoa (by have := hin z hz; omega)
  match zs, n1 with
  | z :: r, _ =>
    refine ⟨?_, h⟩
    rw [hd, spl_pcs (by simp)]
    refine ⟨by simp [pcs, pcsR], fun j p hp => ?_⟩
    cases j with
    | zero =>
      have hp' : p = Lib.itoa z.2 := by simp [pcs] at hp; exact hp.symm
      have hz1 : z.1 = 1 := by
        have := h0 0 z rfl
        unfold sgnE at this
        rw [if_pos rfl, Bool.and_eq_true] at this
        exact beq_iff_eq.1 this.1
      show rd1 p = some z
      rw [hp']
      unfold rd1
      rw [if_pos (hrd z (by simp)), val_itoa, ← hz1]
    | succ i =>
      have hp' : (pcsR r)[i]? = some p := hp
      unfold pcsR at hp'
      rw [List.getElem?_map] at hp'
      show rs1 p = r[i]?
      cases hy : r[i]? with
      | none => rw [hy] at hp'; cases hp'
      | some y =>
        rw [hy] at hp'
        injection hp' with hp'
        have hym : y ∈ z :: r := by have := List.mem_of_getElem? hy; simp [this]
        have hy1 := hin y hym
        have hrb := hrd y hym
        rw [← hp']
        obtain ⟨y1, y2⟩ := y
        rcases hy1.1 with h1 | h1
        · have h1 : y1 = 1 := h1
          subst h1
          show rs1 (43 :: Lib.itoa y2) = _
          rw [rs1_p, if_pos hrb, val_itoa]
        · have h1 : y1 = -1 := h1
          subst h1
          show rs1 (45 :: Lib.itoa y2) = _
          rw [rs1_m, if_pos hrb, val_itoa]
theorem rg_nil : ∀ zs, ¬ Rg ⟨#[]⟩ zs := Rg.not (j := 0) (p := []) rfl rd1_nil
/-- All that the law of terms with signs wants of a text. -/
theorem sgn_text (zs : List (Int × Int)) : ∃ (tt : ByteArray) (R : List (Int × Int)) (b : Bool), sgS zs = tt ∧ RgR tt R b ∧ tt.size ≤ 4001 ∧ ((b = true ∧ R = zs ∧ tt ≠ ⟨#[]⟩) ∨ (b = false ∧ tt = ⟨#[]⟩)) := by
  cases hv : sgnB zs
  · have he : sgS zs = ⟨#[]⟩ := if_neg (by rw [hv]; decide)
    exact ⟨⟨#[]⟩, [], false, he, .inr ⟨rfl, rfl, rg_nil⟩, by decide, .inr ⟨rfl, rfl⟩⟩
  · obtain ⟨n1, n2, hr⟩ := sgn_len hv
    have he : sgS zs = ⟨(sgL zs).toArray⟩ := if_pos hv
    refine ⟨sgS zs, zs, true, rfl, .inl ⟨rfl, rg_text hv⟩, ?_, .inl ⟨rfl, rfl, fun e => ?_⟩⟩
    · have := sgL_len zs (fun z hz => (hr z hz).2)
      rw [he, ← len_size, data_mk]; omega
    · have hR := rg_text hv
      rw [e] at hR
      exact rg_nil zs hR
theorem rgr_len {s : ByteArray} {R : List (Int × Int)} {b : Bool} (h : RgR s R b) : R.length ≤ 60 := by
  rcases h with ⟨_, h⟩ | ⟨_, h, _⟩
  · exact (sgn_len h.2).2.1
  · rw [h]; simp
/-- The law's last row. -/
theorem back_parts {x y kd : Int} (h : exsC x y kd = 0) : (vlsT (exsL x y kd)).2.2 = 5 ∨ (vlsT (exsL x y kd)).2.2 = 6 ∨ ((vlsT (exsL x y kd)).1 = x ∧ (vlsT (exsL x y kd)).2.1 = y ∧ (vlsT (exsL x y kd)).2.2 = 0 ∧ kosC (exsL x y kd) kd = 0 ∧ kosB (exsL x y kd) kd = true) := by
  rcases exs_back h with h | h | ⟨h1, h2, h3⟩
  · exact .inl h
  · exact .inr (.inl h)
  · rw [h1]; exact .inr (.inr ⟨rfl, rfl, rfl, h2, h3⟩)
set_option maxRecDepth 100000 in
set_option maxHeartbeats 12800000 in
theorem fnSigned_walk (w : World) (A : Option Addr) (n cap : Nat) (xs : List Int) (hx : BRow w A n xs) (hd : Dr w) (he : Er w) (hm : Mx w) :
    Calls Tryz.prog 4 #[.slice A n cap] w fun e w' => e = .returned (.bool true) ∧ Below w.heap.size w w' := by
  have hbd := hx.2.1
  have HX := Lib.hid hx
  have HD := Lib.hid hd
  have HE := Lib.hid he
  have HM := Lib.hid hm
  have HL := Lib.hid (f6big_any A n cap w hbd)
  clear hx hd he hm
  cases hn : decide ((4096 : Int) < n)
  · rw [hn] at HL
    clear hn
    go_enter Tryz.func4, Tryz.ntmps4
    go_wp2_with fail
    refine HL.out.mono ?_
    rintro e w' ⟨rfl, rfl⟩
    clear HL
    go_wp2_with fail
    refine (drawExp_any A n cap xs w HX.out).mono ?_
    rintro e w1 ⟨⟨x, y, kd, rfl, _, _⟩, hb⟩
    have PF1 := Lib.hid (Pr.new w1 x y 25)
    have HB1 := Lib.hid (Below.al (hb) (Nat.le_refl _) (.cells #[.int .i64 x, .int .i64 y] 25))
    clear hb  
    have HE1 := fun W => implExs_any x y kd W
    have HE2 := fun W => specExs_any x y kd W
    unfold ResS at HE1 HE2
    have hel := exsL_len x y kd
    have her := exsL_rng x y kd
    have hbk := fun h => back_parts (x := x) (y := y) (kd := kd) h
    generalize exsL x y kd = E at *
    generalize exsC x y kd = cE at *
    obtain ⟨NE, hNE⟩ : ∃ NE, E.length = NE := ⟨_, rfl⟩
    rw [hNE] at HE1 HE2 hel
    have HBk := Lib.hid hbk
    have HEr := Lib.hid her
    replace HE1 := Lib.hid HE1
    replace HE2 := Lib.hid HE2
    clear hbk her hNE
    obtain ⟨PF_a, PF_b, _, _⟩ := PF1.out
    go_wp2_with fail
    refine (HE1.out _).mono ?_
    rintro e w2 ⟨⟨A2, c2, rfl, ho⟩, hb⟩
    have hcA := own_cap ho
    have PF2 := Lib.hid (PF1.out.below hb)
    have rA2 := Lib.hid (PRow.of_own ho (by omega) HEr.out)
    have HB2 := Lib.hid (HB1.out.trans (hb.mono HB1.out.size))
    clear hb PF1 HB1 ho HE1 PF_a PF_b
    obtain ⟨PF_a, PF_b, _, _⟩ := PF2.out
    go_wp2_with fail
    refine (HE2.out _).mono ?_
    rintro e w3 ⟨⟨A3, c3, rfl, ho⟩, hb⟩
    have PF3 := Lib.hid (PF2.out.below hb)
    have rA3 := Lib.hid (rA2.out.below hb)
    have rB3 := Lib.hid (PRow.of_own ho (by omega) HEr.out)
    have HB3 := Lib.hid (HB2.out.trans (hb.mono HB2.out.size))
    clear hb PF2 rA2 HB2 ho HE2 PF_a PF_b
    go_wp2_with fail
    refine (drawKnd_any A n cap xs _ (HX.out.below HB3.out)).mono ?_
    rintro e w4 ⟨⟨ks, BK, mK, cK, kk, rfl, hrow, hcK, hmK⟩, hb⟩
    have PF4 := Lib.hid (PF3.out.below hb)
    have rA4 := Lib.hid (rA3.out.below hb)
    have rB4 := Lib.hid (rB3.out.below hb)
    have rK4 := Lib.hid (hrow)
    have HB4 := Lib.hid (HB3.out.trans (hb.mono HB3.out.size))
    clear hb PF3 rA3 rB3 HB3 hrow
    have HK1 := fun W h => implKos_any BK mK cK ks kk W h hcK
    have HK2 := fun W h => specKos_any BK mK cK ks kk W h
    generalize kosB ks kk = bK at *
    generalize kosC ks kk = cKo at *
    replace HK1 := Lib.hid HK1
    replace HK2 := Lib.hid HK2
    go_wp2_with fail
    refine (HK1.out _ rK4.out).mono ?_
    rintro e w5 ⟨rfl, hb⟩
    have PF5 := Lib.hid (PF4.out.below hb)
    have rA5 := Lib.hid (rA4.out.below hb)
    have rB5 := Lib.hid (rB4.out.below hb)
    have rK5 := Lib.hid (rK4.out.below hb)
    have HB5 := Lib.hid (HB4.out.trans (hb.mono HB4.out.size))
    clear hb PF4 rA4 rB4 rK4 HB4 HK1
    go_wp2_with fail
    refine (HK2.out _ rK5.out).mono ?_
    rintro e w6 ⟨rfl, hb⟩
    have PF6 := Lib.hid (PF5.out.below hb)
    have rA6 := Lib.hid (rA5.out.below hb)
    have rB6 := Lib.hid (rB5.out.below hb)
    have HB6 := Lib.hid (HB5.out.trans (hb.mono HB5.out.size))
    clear hb rK5 PF5 rA5 rB5 HB5 HK2
    go_wp2_with fail
    refine (drawTxt_any A n cap xs _ (HX.out.below HB6.out)).mono ?_
    rintro e w7 ⟨⟨ts, BT, mT, cT, rfl, hrow, hcT, hmT⟩, hb⟩
    have PF7 := Lib.hid (PF6.out.below hb)
    have rA7 := Lib.hid (rA6.out.below hb)
    have rB7 := Lib.hid (rB6.out.below hb)
    have rT7 := Lib.hid (hrow)
    have HB7 := Lib.hid (HB6.out.trans (hb.mono HB6.out.size))
    clear hb PF6 rA6 rB6 HB6 hrow
    obtain ⟨tt, R1, b1, htt, hR1, hs1, hcs⟩ := sgn_text ts
    have HG1 := fun W h d => implSgt_any BT mT cT ts W h hcT d
    have HG2 := fun W h => specSgt_any BT mT cT ts W h
    rw [htt] at HG1 HG2
    have HR1 := fun W d e m => implRsg_any tt W (by omega) d e m R1 b1 hR1
    unfold ResR at HR1
    have hl1 := rgr_len hR1
    have HR1r := Lib.hid hR1.rng
    have HV1 := fun W h => validSigned_any BT mT cT ts W h hcT
    have HV2 := fun W h => specValidSigned_any BT mT cT ts W h
    generalize sgnB ts = vb at HV1 HV2
    obtain ⟨N1, hN1⟩ : ∃ N1, R1.length = N1 := ⟨_, rfl⟩
    rw [hN1] at HR1 hl1
    have HN1 := Lib.hid hN1
    have HCs := Lib.hid hcs
    replace HG1 := Lib.hid HG1
    replace HG2 := Lib.hid HG2
    replace HR1 := Lib.hid HR1
    replace HV1 := Lib.hid HV1
    replace HV2 := Lib.hid HV2
    clear htt hR1 hs1 hcs hN1
    go_wp2_with fail
    refine (HG1.out _ rT7.out (HD.out.below HB7.out)).mono ?_
    rintro e w8 ⟨rfl, hb⟩
    have PF8 := Lib.hid (PF7.out.below hb)
    have rA8 := Lib.hid (rA7.out.below hb)
    have rB8 := Lib.hid (rB7.out.below hb)
    have rT8 := Lib.hid (rT7.out.below hb)
    have HB8 := Lib.hid (HB7.out.trans (hb.mono HB7.out.size))
    clear hb PF7 rA7 rB7 rT7 HB7 HG1
    go_wp2_with fail
    refine (HR1.out _ (HD.out.below HB8.out) (HE.out.below HB8.out) (HM.out.below HB8.out)).mono ?_
    rintro e w9 ⟨⟨A9, c9, rfl, ho⟩, hb⟩
    have PF9 := Lib.hid (PF8.out.below hb)
    have rA9 := Lib.hid (rA8.out.below hb)
    have rB9 := Lib.hid (rB8.out.below hb)
    have rT9 := Lib.hid (rT8.out.below hb)
    have rR9 := Lib.hid (PRow.of_own ho (by omega) HR1r.out)
    have HB9 := Lib.hid (HB8.out.trans (hb.mono HB8.out.size))
    clear hb PF8 rA8 rB8 rT8 HB8 ho HR1
    go_wp2_with fail
    refine (drawRead_any A n cap xs _ (HX.out.below HB9.out)).mono ?_
    rintro e w10 ⟨⟨s, rfl, hss⟩, hb⟩
    have PF10 := Lib.hid (PF9.out.below hb)
    have rA10 := Lib.hid (rA9.out.below hb)
    have rB10 := Lib.hid (rB9.out.below hb)
    have rT10 := Lib.hid (rT9.out.below hb)
    have rR10 := Lib.hid (rR9.out.below hb)
    have HB10 := Lib.hid (HB9.out.trans (hb.mono HB9.out.size))
    clear hb PF9 rA9 rB9 rT9 rR9 HB9 
    obtain ⟨R2, b2, hR2⟩ := RgR.exists s
    have HQ1 := fun W d e m => implRsg_any s W (by omega) d e m R2 b2 hR2
    have HQ2 := fun W => specRsg_any s W (by omega) R2 b2 hR2
    unfold ResR at HQ1 HQ2
    have hl2 := rgr_len hR2
    have HR2r := Lib.hid hR2.rng
    obtain ⟨N2, hN2⟩ : ∃ N2, R2.length = N2 := ⟨_, rfl⟩
    rw [hN2] at HQ1 HQ2 hl2
    replace HQ1 := Lib.hid HQ1
    replace HQ2 := Lib.hid HQ2
    clear hR2 hN2
    go_wp2_with fail
    refine (HQ1.out _ (HD.out.below HB10.out) (HE.out.below HB10.out) (HM.out.below HB10.out)).mono ?_
    rintro e w11 ⟨⟨A11, c11, rfl, ho⟩, hb⟩
    have PF11 := Lib.hid (PF10.out.below hb)
    have rA11 := Lib.hid (rA10.out.below hb)
    have rB11 := Lib.hid (rB10.out.below hb)
    have rT11 := Lib.hid (rT10.out.below hb)
    have rR11 := Lib.hid (rR10.out.below hb)
    have rX11 := Lib.hid (PRow.of_own ho (by omega) HR2r.out)
    have HB11 := Lib.hid (HB10.out.trans (hb.mono HB10.out.size))
    clear hb PF10 rA10 rB10 rT10 rR10 HB10 ho HQ1
    go_wp2_with fail
    refine (HQ2.out _).mono ?_
    rintro e w12 ⟨⟨A12, c12, rfl, ho⟩, hb⟩
    have PF12 := Lib.hid (PF11.out.below hb)
    have rA12 := Lib.hid (rA11.out.below hb)
    have rB12 := Lib.hid (rB11.out.below hb)
    have rT12 := Lib.hid (rT11.out.below hb)
    have rR12 := Lib.hid (rR11.out.below hb)
    have rX12 := Lib.hid (rX11.out.below hb)
    have rY12 := Lib.hid (PRow.of_own ho (by omega) HR2r.out)
    have HB12 := Lib.hid (HB11.out.trans (hb.mono HB11.out.size))
    clear hb PF11 rA11 rB11 rT11 rR11 rX11 HB11 ho HQ2
    go_wp2_with fail
    refine (drawSame_any A n cap xs _ (HX.out.below HB12.out)).mono ?_
    rintro e w13 ⟨⟨ps, qs, BP, BQ, mP, cP, mQ, cQ, rfl, hrow, hrow2⟩, hb⟩
    have PF13 := Lib.hid (PF12.out.below hb)
    have rA13 := Lib.hid (rA12.out.below hb)
    have rB13 := Lib.hid (rB12.out.below hb)
    have rT13 := Lib.hid (rT12.out.below hb)
    have rR13 := Lib.hid (rR12.out.below hb)
    have rX13 := Lib.hid (rX12.out.below hb)
    have rY13 := Lib.hid (rY12.out.below hb)
    have rP13 := Lib.hid (hrow)
    have rQ13 := Lib.hid (hrow2)
    have HB13 := Lib.hid (HB12.out.trans (hb.mono HB12.out.size))
    clear hb PF12 rA12 rB12 rT12 rR12 rX12 rY12 HB12 hrow hrow2
    have HS1 := fun W h h' => implSame_b BP mP cP BQ mQ cQ ps qs W h h'
    have HS2 := fun W h h' => specSame_b BP mP cP BQ mQ cQ ps qs W h h'
    generalize sameB ps qs = sb at HS1 HS2
    replace HS1 := Lib.hid HS1
    replace HS2 := Lib.hid HS2
    go_wp2_with fail
    refine (drawName_any A n cap xs _ (HX.out.below HB13.out)).mono ?_
    rintro e w14 ⟨⟨nm, rfl⟩, hb⟩
    have PF14 := Lib.hid (PF13.out.below hb)
    have rA14 := Lib.hid (rA13.out.below hb)
    have rB14 := Lib.hid (rB13.out.below hb)
    have rT14 := Lib.hid (rT13.out.below hb)
    have rR14 := Lib.hid (rR13.out.below hb)
    have rX14 := Lib.hid (rX13.out.below hb)
    have rY14 := Lib.hid (rY13.out.below hb)
    have rP14 := Lib.hid (rP13.out.below hb)
    have rQ14 := Lib.hid (rQ13.out.below hb)
    have HB14 := Lib.hid (HB13.out.trans (hb.mono HB13.out.size))
    clear hb PF13 rA13 rB13 rT13 rR13 rX13 rY13 rP13 rQ13 HB13 
    have HN1' := fun W => impl_kindName nm W
    have HN2' := fun W => spec_kindName nm W
    generalize kindName nm = kn at HN1' HN2'
    replace HN1' := Lib.hid HN1'
    replace HN2' := Lib.hid HN2'
    go_wp2_with fail
    refine (specSame_b A2 NE c2 A3 NE c3 E E _ rA14.out rB14.out).mono ?_
    rintro e w15 ⟨rfl, hb⟩
    have PF15 := Lib.hid (PF14.out.below hb)
    have rA15 := Lib.hid (rA14.out.below hb)
    have rT15 := Lib.hid (rT14.out.below hb)
    have rR15 := Lib.hid (rR14.out.below hb)
    have rX15 := Lib.hid (rX14.out.below hb)
    have rY15 := Lib.hid (rY14.out.below hb)
    have rP15 := Lib.hid (rP14.out.below hb)
    have rQ15 := Lib.hid (rQ14.out.below hb)
    have HB15 := Lib.hid (HB14.out.trans (hb.mono HB14.out.size))
    clear hb rB14 PF14 rA14 rT14 rR14 rX14 rY14 rP14 rQ14 HB14 
    rw [sameB_self E]
    go_wp2_with fail
    refine (HG2.out _ rT15.out).mono ?_
    rintro e w16 ⟨rfl, hb⟩
    have PF16 := Lib.hid (PF15.out.below hb)
    have rA16 := Lib.hid (rA15.out.below hb)
    have rT16 := Lib.hid (rT15.out.below hb)
    have rR16 := Lib.hid (rR15.out.below hb)
    have rX16 := Lib.hid (rX15.out.below hb)
    have rY16 := Lib.hid (rY15.out.below hb)
    have rP16 := Lib.hid (rP15.out.below hb)
    have rQ16 := Lib.hid (rQ15.out.below hb)
    have HB16 := Lib.hid (HB15.out.trans (hb.mono HB15.out.size))
    clear hb PF15 rA15 rT15 rR15 rX15 rY15 rP15 rQ15 HB15 HG2
    rcases HCs.out with ⟨hb1, hRt, hne⟩ | ⟨hb1, hne⟩
    · have hie : tt.toList.isEmpty = false := tl_ne hne
      clear hne HCs
      subst hb1 hRt
      go_wp2_with fail
      refine (specSame_b A9 N1 c9 BT mT cT R1 R1 _ rR16.out rT16.out).mono ?_
      rintro e w17 ⟨rfl, hb⟩
      have PF17 := Lib.hid (PF16.out.below hb)
      have rA17 := Lib.hid (rA16.out.below hb)
      have rT17 := Lib.hid (rT16.out.below hb)
      have rX17 := Lib.hid (rX16.out.below hb)
      have rY17 := Lib.hid (rY16.out.below hb)
      have rP17 := Lib.hid (rP16.out.below hb)
      have rQ17 := Lib.hid (rQ16.out.below hb)
      have HB17 := Lib.hid (HB16.out.trans (hb.mono HB16.out.size))
      clear hb rR16 PF16 rA16 rT16 rX16 rY16 rP16 rQ16 HB16 
      rw [sameB_self R1]
      go_wp2_with fail
      refine (specSame_b A11 N2 c11 A12 N2 c12 R2 R2 _ rX17.out rY17.out).mono ?_
      rintro e w18 ⟨rfl, hb⟩
      have PF18 := Lib.hid (PF17.out.below hb)
      have rA18 := Lib.hid (rA17.out.below hb)
      have rT18 := Lib.hid (rT17.out.below hb)
      have rP18 := Lib.hid (rP17.out.below hb)
      have rQ18 := Lib.hid (rQ17.out.below hb)
      have HB18 := Lib.hid (HB17.out.trans (hb.mono HB17.out.size))
      clear hb rX17 rY17 PF17 rA17 rT17 rP17 rQ17 HB17 
      rw [sameB_self R2]
      go_wp2_with fail
      refine (HS1.out _ rP18.out rQ18.out).mono ?_
      rintro e w19 ⟨rfl, hb⟩
      have PF19 := Lib.hid (PF18.out.below hb)
      have rA19 := Lib.hid (rA18.out.below hb)
      have rT19 := Lib.hid (rT18.out.below hb)
      have rP19 := Lib.hid (rP18.out.below hb)
      have rQ19 := Lib.hid (rQ18.out.below hb)
      have HB19 := Lib.hid (HB18.out.trans (hb.mono HB18.out.size))
      clear hb PF18 rA18 rT18 rP18 rQ18 HB18 HS1
      go_wp2_with fail
      refine (HS2.out _ rP19.out rQ19.out).mono ?_
      rintro e w20 ⟨rfl, hb⟩
      have PF20 := Lib.hid (PF19.out.below hb)
      have rA20 := Lib.hid (rA19.out.below hb)
      have rT20 := Lib.hid (rT19.out.below hb)
      have HB20 := Lib.hid (HB19.out.trans (hb.mono HB19.out.size))
      clear hb rP19 rQ19 PF19 rA19 rT19 HB19 HS2
      go_wp2_with fail
      refine (HN1'.out _).mono ?_
      rintro e w21 ⟨rfl, hb⟩
      have PF21 := Lib.hid (PF20.out.below hb)
      have rA21 := Lib.hid (rA20.out.below hb)
      have rT21 := Lib.hid (rT20.out.below hb)
      have HB21 := Lib.hid (HB20.out.trans (hb.mono HB20.out.size))
      clear hb PF20 rA20 rT20 HB20 HN1'
      go_wp2_with fail
      refine (HN2'.out _).mono ?_
      rintro e w22 ⟨rfl, hb⟩
      have PF22 := Lib.hid (PF21.out.below hb)
      have rA22 := Lib.hid (rA21.out.below hb)
      have rT22 := Lib.hid (rT21.out.below hb)
      have HB22 := Lib.hid (HB21.out.trans (hb.mono HB21.out.size))
      clear hb PF21 rA21 rT21 HB21 HN2'
      go_wp2_with fail
      refine (HV1.out _ rT22.out).mono ?_
      rintro e w23 ⟨rfl, hb⟩
      have PF23 := Lib.hid (PF22.out.below hb)
      have rA23 := Lib.hid (rA22.out.below hb)
      have rT23 := Lib.hid (rT22.out.below hb)
      have HB23 := Lib.hid (HB22.out.trans (hb.mono HB22.out.size))
      clear hb PF22 rA22 rT22 HB22 HV1
      go_wp2_with fail
      refine (HV2.out _ rT23.out).mono ?_
      rintro e w' ⟨rfl, rfl⟩
      clear HV2
      by_cases hE0 : cE = 0
      · have hb5 := HBk.out hE0
        have HVl := fun W h => implVls_any A2 NE c2 E W h hcA
        have HKo := fun W h => implKos_any A2 NE c2 E kd W h hcA
        generalize (vlsT E).1 = v1 at *
        generalize (vlsT E).2.1 = v2 at *
        generalize (vlsT E).2.2 = v5 at *
        generalize kosC E kd = kc at *
        generalize kosB E kd = kb at *
        replace HVl := Lib.hid HVl
        replace HKo := Lib.hid HKo
        subst hE0
        have h3 : v5 = 5 ∨ v5 = 6 ∨ (v1 = x ∧ v2 = y ∧ v5 = 0 ∧ kc = 0 ∧ kb = true) := hb5
        clear hb5 HBk
        rcases h3 with rfl | rfl | ⟨rfl, rfl, rfl, rfl, rfl⟩
        · go_wp2_with fail
          refine (HVl.out _ rA23.out).mono ?_
          rintro e w30 ⟨rfl, hb⟩
          have PF30 := Lib.hid ((PF23.out.below hb).alloc (.cells #[.int .i64 v1, .int .i64 v2] 25))
          have PV30 := Lib.hid (Pr.new w30 v1 v2 25)
          have rA30 := Lib.hid ((rA23.out.below hb).alloc (.cells #[.int .i64 v1, .int .i64 v2] 25))
          have B30 := Lib.hid (Below.al (HB23.out.trans (hb.mono HB23.out.size)) (Nat.le_refl _) (.cells #[.int .i64 v1, .int .i64 v2] 25))
          clear hb
          go_wp2_with fail
          refine (HKo.out _ rA30.out).mono ?_
          rintro e w31 ⟨rfl, hb⟩
          obtain ⟨F_a, F_b, _, _⟩ := PF30.out.below hb
          obtain ⟨V_a, V_b, _, _⟩ := PV30.out.below hb
          have B31 := Lib.hid (B30.out.trans (hb.mono B30.out.size))
          clear hb
          go_wp2_with fail
          go_ret
          exact ⟨by simp, B31.out⟩
        · go_wp2_with fail
          refine (HVl.out _ rA23.out).mono ?_
          rintro e w30 ⟨rfl, hb⟩
          have PF30 := Lib.hid ((PF23.out.below hb).alloc (.cells #[.int .i64 v1, .int .i64 v2] 25))
          have PV30 := Lib.hid (Pr.new w30 v1 v2 25)
          have rA30 := Lib.hid ((rA23.out.below hb).alloc (.cells #[.int .i64 v1, .int .i64 v2] 25))
          have B30 := Lib.hid (Below.al (HB23.out.trans (hb.mono HB23.out.size)) (Nat.le_refl _) (.cells #[.int .i64 v1, .int .i64 v2] 25))
          clear hb
          go_wp2_with fail
          refine (HKo.out _ rA30.out).mono ?_
          rintro e w31 ⟨rfl, hb⟩
          obtain ⟨F_a, F_b, _, _⟩ := PF30.out.below hb
          obtain ⟨V_a, V_b, _, _⟩ := PV30.out.below hb
          have B31 := Lib.hid (B30.out.trans (hb.mono B30.out.size))
          clear hb
          go_wp2_with fail
          go_ret
          exact ⟨by simp, B31.out⟩
        · go_wp2_with fail
          refine (HVl.out _ rA23.out).mono ?_
          rintro e w30 ⟨rfl, hb⟩
          have PF30 := Lib.hid ((PF23.out.below hb).alloc (.cells #[.int .i64 v1, .int .i64 v2] 25))
          have PV30 := Lib.hid (Pr.new w30 v1 v2 25)
          have rA30 := Lib.hid ((rA23.out.below hb).alloc (.cells #[.int .i64 v1, .int .i64 v2] 25))
          have B30 := Lib.hid (Below.al (HB23.out.trans (hb.mono HB23.out.size)) (Nat.le_refl _) (.cells #[.int .i64 v1, .int .i64 v2] 25))
          clear hb
          go_wp2_with fail
          refine (HKo.out _ rA30.out).mono ?_
          rintro e w31 ⟨rfl, hb⟩
          obtain ⟨F_a, F_b, _, _⟩ := PF30.out.below hb
          obtain ⟨V_a, V_b, _, _⟩ := PV30.out.below hb
          have B31 := Lib.hid (B30.out.trans (hb.mono B30.out.size))
          clear hb
          go_wp2_with fail
          go_ret
          exact ⟨by simp, B31.out⟩
      · have hcb : (cE == 0) = false := beq_eq_false_iff_ne.2 hE0
        go_wp2_with fail
        go_ret
        exact ⟨rfl, HB23.out⟩
    · have hie : tt.toList.isEmpty = true := by rw [hne, ByteArray.toList_eq]; rfl
      clear hne HCs
      subst hb1
      go_wp2_with fail
      refine (specSame_b A11 N2 c11 A12 N2 c12 R2 R2 _ rX16.out rY16.out).mono ?_
      rintro e w17 ⟨rfl, hb⟩
      have PF17 := Lib.hid (PF16.out.below hb)
      have rA17 := Lib.hid (rA16.out.below hb)
      have rT17 := Lib.hid (rT16.out.below hb)
      have rP17 := Lib.hid (rP16.out.below hb)
      have rQ17 := Lib.hid (rQ16.out.below hb)
      have HB17 := Lib.hid (HB16.out.trans (hb.mono HB16.out.size))
      clear hb rX16 rY16 rR16 PF16 rA16 rT16 rP16 rQ16 HB16 
      rw [sameB_self R2]
      go_wp2_with fail
      refine (HS1.out _ rP17.out rQ17.out).mono ?_
      rintro e w18 ⟨rfl, hb⟩
      have PF18 := Lib.hid (PF17.out.below hb)
      have rA18 := Lib.hid (rA17.out.below hb)
      have rT18 := Lib.hid (rT17.out.below hb)
      have rP18 := Lib.hid (rP17.out.below hb)
      have rQ18 := Lib.hid (rQ17.out.below hb)
      have HB18 := Lib.hid (HB17.out.trans (hb.mono HB17.out.size))
      clear hb PF17 rA17 rT17 rP17 rQ17 HB17 HS1
      go_wp2_with fail
      refine (HS2.out _ rP18.out rQ18.out).mono ?_
      rintro e w19 ⟨rfl, hb⟩
      have PF19 := Lib.hid (PF18.out.below hb)
      have rA19 := Lib.hid (rA18.out.below hb)
      have rT19 := Lib.hid (rT18.out.below hb)
      have HB19 := Lib.hid (HB18.out.trans (hb.mono HB18.out.size))
      clear hb rP18 rQ18 PF18 rA18 rT18 HB18 HS2
      go_wp2_with fail
      refine (HN1'.out _).mono ?_
      rintro e w20 ⟨rfl, hb⟩
      have PF20 := Lib.hid (PF19.out.below hb)
      have rA20 := Lib.hid (rA19.out.below hb)
      have rT20 := Lib.hid (rT19.out.below hb)
      have HB20 := Lib.hid (HB19.out.trans (hb.mono HB19.out.size))
      clear hb PF19 rA19 rT19 HB19 HN1'
      go_wp2_with fail
      refine (HN2'.out _).mono ?_
      rintro e w21 ⟨rfl, hb⟩
      have PF21 := Lib.hid (PF20.out.below hb)
      have rA21 := Lib.hid (rA20.out.below hb)
      have rT21 := Lib.hid (rT20.out.below hb)
      have HB21 := Lib.hid (HB20.out.trans (hb.mono HB20.out.size))
      clear hb PF20 rA20 rT20 HB20 HN2'
      go_wp2_with fail
      refine (HV1.out _ rT21.out).mono ?_
      rintro e w22 ⟨rfl, hb⟩
      have PF22 := Lib.hid (PF21.out.below hb)
      have rA22 := Lib.hid (rA21.out.below hb)
      have rT22 := Lib.hid (rT21.out.below hb)
      have HB22 := Lib.hid (HB21.out.trans (hb.mono HB21.out.size))
      clear hb PF21 rA21 rT21 HB21 HV1
      go_wp2_with fail
      refine (HV2.out _ rT22.out).mono ?_
      rintro e w' ⟨rfl, rfl⟩
      clear HV2
      by_cases hE0 : cE = 0
      · have hb5 := HBk.out hE0
        have HVl := fun W h => implVls_any A2 NE c2 E W h hcA
        have HKo := fun W h => implKos_any A2 NE c2 E kd W h hcA
        generalize (vlsT E).1 = v1 at *
        generalize (vlsT E).2.1 = v2 at *
        generalize (vlsT E).2.2 = v5 at *
        generalize kosC E kd = kc at *
        generalize kosB E kd = kb at *
        replace HVl := Lib.hid HVl
        replace HKo := Lib.hid HKo
        subst hE0
        have h3 : v5 = 5 ∨ v5 = 6 ∨ (v1 = x ∧ v2 = y ∧ v5 = 0 ∧ kc = 0 ∧ kb = true) := hb5
        clear hb5 HBk
        rcases h3 with rfl | rfl | ⟨rfl, rfl, rfl, rfl, rfl⟩
        · go_wp2_with fail
          refine (HVl.out _ rA22.out).mono ?_
          rintro e w30 ⟨rfl, hb⟩
          have PF30 := Lib.hid ((PF22.out.below hb).alloc (.cells #[.int .i64 v1, .int .i64 v2] 25))
          have PV30 := Lib.hid (Pr.new w30 v1 v2 25)
          have rA30 := Lib.hid ((rA22.out.below hb).alloc (.cells #[.int .i64 v1, .int .i64 v2] 25))
          have B30 := Lib.hid (Below.al (HB22.out.trans (hb.mono HB22.out.size)) (Nat.le_refl _) (.cells #[.int .i64 v1, .int .i64 v2] 25))
          clear hb
          go_wp2_with fail
          refine (HKo.out _ rA30.out).mono ?_
          rintro e w31 ⟨rfl, hb⟩
          obtain ⟨F_a, F_b, _, _⟩ := PF30.out.below hb
          obtain ⟨V_a, V_b, _, _⟩ := PV30.out.below hb
          have B31 := Lib.hid (B30.out.trans (hb.mono B30.out.size))
          clear hb
          go_wp2_with fail
          go_ret
          exact ⟨by simp, B31.out⟩
        · go_wp2_with fail
          refine (HVl.out _ rA22.out).mono ?_
          rintro e w30 ⟨rfl, hb⟩
          have PF30 := Lib.hid ((PF22.out.below hb).alloc (.cells #[.int .i64 v1, .int .i64 v2] 25))
          have PV30 := Lib.hid (Pr.new w30 v1 v2 25)
          have rA30 := Lib.hid ((rA22.out.below hb).alloc (.cells #[.int .i64 v1, .int .i64 v2] 25))
          have B30 := Lib.hid (Below.al (HB22.out.trans (hb.mono HB22.out.size)) (Nat.le_refl _) (.cells #[.int .i64 v1, .int .i64 v2] 25))
          clear hb
          go_wp2_with fail
          refine (HKo.out _ rA30.out).mono ?_
          rintro e w31 ⟨rfl, hb⟩
          obtain ⟨F_a, F_b, _, _⟩ := PF30.out.below hb
          obtain ⟨V_a, V_b, _, _⟩ := PV30.out.below hb
          have B31 := Lib.hid (B30.out.trans (hb.mono B30.out.size))
          clear hb
          go_wp2_with fail
          go_ret
          exact ⟨by simp, B31.out⟩
        · go_wp2_with fail
          refine (HVl.out _ rA22.out).mono ?_
          rintro e w30 ⟨rfl, hb⟩
          have PF30 := Lib.hid ((PF22.out.below hb).alloc (.cells #[.int .i64 v1, .int .i64 v2] 25))
          have PV30 := Lib.hid (Pr.new w30 v1 v2 25)
          have rA30 := Lib.hid ((rA22.out.below hb).alloc (.cells #[.int .i64 v1, .int .i64 v2] 25))
          have B30 := Lib.hid (Below.al (HB22.out.trans (hb.mono HB22.out.size)) (Nat.le_refl _) (.cells #[.int .i64 v1, .int .i64 v2] 25))
          clear hb
          go_wp2_with fail
          refine (HKo.out _ rA30.out).mono ?_
          rintro e w31 ⟨rfl, hb⟩
          obtain ⟨F_a, F_b, _, _⟩ := PF30.out.below hb
          obtain ⟨V_a, V_b, _, _⟩ := PV30.out.below hb
          have B31 := Lib.hid (B30.out.trans (hb.mono B30.out.size))
          clear hb
          go_wp2_with fail
          go_ret
          exact ⟨by simp, B31.out⟩
      · have hcb : (cE == 0) = false := beq_eq_false_iff_ne.2 hE0
        go_wp2_with fail
        go_ret
        exact ⟨rfl, HB22.out⟩
  · rw [hn] at HL
    clear hn
    go_enter Tryz.func4, Tryz.ntmps4
    go_wp2_with fail
    refine HL.out.mono ?_
    rintro e w' ⟨rfl, rfl⟩
    go_wp2_with fail
    go_ret
    exact ⟨rfl, Below.refl _ _⟩
end Go.Proofs.YtlpglibnjmjjkaaGreatDoor
