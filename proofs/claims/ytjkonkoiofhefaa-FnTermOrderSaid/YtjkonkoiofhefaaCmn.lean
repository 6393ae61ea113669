/-
  The common beginning of two paths: plain laws; contracts of the program's and of the reference's functions.
  No condition but those of the law's own text.
-/
import Derived.Test.YtjkonkoiofhefaaProg
import Derived.Test.YtjkonkoiofhefaaMem
import Derived.Test.YtjkonkoiofhefaaBasic
import Derived.Test.YtjkonkoiofhefaaAllk
import Derived.Test.YtjkonkoiofhefaaInts
import Derived.Test.YtjkonkoiofhefaaFrac
import Derived.Test.YtjkonkoiofhefaaFrac2
import Derived.Test.YtjkonkoiofhefaaFrac3
import Derived.Test.YtjkonkoiofhefaaOwn
import Derived.Test.YtjkonkoiofhefaaShort
import Derived.Test.YtjkonkoiofhefaaExp
import Derived.Test.YtjkonkoiofhefaaPthM
import Derived.Test.YtjkonkoiofhefaaCvg
import Derived.Test.YtjkonkoiofhefaaPth
import Derived.Handy
import Derived.BigQuiet
import Derived.Deep.QuietTactic
import Derived.Deep.AppendLies
import Derived.Deep.RegionHeld3
namespace Go.Proofs.Ytjkonkoiofhefaa
open Go.RowKit
set_option linter.unusedVariables false
set_option linter.unusedSimpArgs false
attribute [local go_sem ↓] Go.wp_at_zero Go.wp_at_succ

/-- Short terms are few. -/
theorem expN_log (k : Nat) : ∀ (a : Int) (b : Nat), b < 2 ^ k → (expN a b).length ≤ 2 * k := by
  induction k with
  | zero => intro a b h; rw [show b = 0 by simp at h; exact h, expN_zero]; simp
  | succ k ih =>
    intro a b h
    rw [Nat.pow_succ] at h
    rcases Nat.eq_zero_or_pos b with rfl | hb
    · rw [expN_zero]; simp
    · rw [expN_pos hb]
      have hm := mod_bd a hb
      rcases Nat.eq_zero_or_pos (a % (b : Int)).toNat with he | he
      · rw [he, expN_zero]; simp; omega
      · have hlt : (a % (b : Int)).toNat < b := by omega
        generalize (a % (b : Int)).toNat = m at *
        rw [expN_pos he]
        have hm2 := mod_bd (b : Int) he
        have hq := quo_mul (b : Int) he
        have hq1 : 1 ≤ (b : Int) / (m : Int) := by
          rcases Int.lt_or_le ((b : Int) / (m : Int)) 1 with hl | hl
          · exfalso
            have : (b : Int) / (m : Int) * m ≤ 0 * m := Int.mul_le_mul_of_nonneg_right (by omega) (by omega)
            omega
          · exact hl
        have hq2 : 1 * (m : Int) ≤ (b : Int) / (m : Int) * m := Int.mul_le_mul_of_nonneg_right hq1 (by omega)
        have := ih m ((b : Int) % (m : Int)).toNat (by omega)
        simp only [List.length_cons]
        omega
theorem expN_ge (b : Nat) : ∀ a : Int, 0 < b → ∀ (k : Nat) z, (expN a b)[k + 1]? = some z → 1 ≤ z := by
  induction b using Nat.strongRecOn with
  | ind b ih =>
    intro a h0 k z hz
    have hm := mod_bd a h0
    rw [expN_pos h0, List.getElem?_cons_succ] at hz
    rcases Nat.eq_zero_or_pos (a % (b : Int)).toNat with he | he
    · rw [he, expN_zero] at hz; cases hz
    · cases k with
      | succ k => exact ih _ (by omega) b he k z hz
      | zero =>
        rw [expN_pos he] at hz
        simp only [List.getElem?_cons_zero, Option.some.injEq] at hz
        subst hz
        have hq := quo_mul (b : Int) he
        have hm2 := mod_bd (b : Int) he
        rcases Int.lt_or_le ((b : Int) / ((a % (b : Int)).toNat : Int)) 1 with hl | hl
        · exfalso
          have : (b : Int) / ((a % (b : Int)).toNat : Int) * ((a % (b : Int)).toNat : Int) ≤ 0 * ((a % (b : Int)).toNat : Int) := Int.mul_le_mul_of_nonneg_right (by omega) (by omega)
          omega
        · exact hl

/-- Runs: few, none negative, only the first may be 0. -/
def PthOk (l : List Int) : Prop := l.length ≤ 60 ∧ (∀ z ∈ l, 0 ≤ z ∧ z ≤ 1000000000) ∧ ∀ (k : Nat) z, l[k + 1]? = some z → 1 ≤ z
theorem PthOk.nil : PthOk [] := ⟨by simp, fun z hz => by (cases hz), fun k z h => by cases h⟩
theorem pth_ok {p : Int} {d : Nat} (h1 : 1 ≤ p) (h2 : p ≤ 1000000000) (h3 : d ≤ 1000000000) (h4 : 0 < d) : PthOk (pthL p d) := by
  obtain ⟨m, hm⟩ : ∃ m, (expN p d).length = m + 1 := ⟨(expN p d).length - 1, by have := List.length_pos_iff.2 (expN_ne (a := p) h4); omega⟩
  obtain ⟨z, hz⟩ : ∃ z, (expN p d)[m]? = some z := ⟨_, List.getElem?_eq_getElem (by omega)⟩
  have hb := expN_rng d p (by omega) h2 h3
  have hl := expN_log 30 p d (by omega)
  have hmd := mod_bd p h4
  by_cases h1z : z = 1
  · subst h1z
    rw [(pthL_one h4 hm hz).2]
    exact PthOk.nil
  · have hhead : ∀ y, (expN p d)[0]? = some y → 0 ≤ y := by
      intro y hy
      rw [expN_pos h4] at hy
      simp at hy
      rw [← hy]
      exact Int.ediv_nonneg (by omega) (by omega)
    have hz1 : 1 ≤ z ∧ (1 ≤ m → 2 ≤ z) := by
      rw [expN_pos h4] at hm hz
      rcases Nat.eq_zero_or_pos (p % (d : Int)).toNat with he | he
      · rw [he, expN_zero] at hm hz
        simp at hm
        subst hm
        simp at hz
        have hq := quo_mul p h4
        refine ⟨?_, fun h => absurd h (by omega)⟩
        rw [← hz]
        rcases Int.lt_or_le (p / (d : Int)) 1 with hl | hl
        · exfalso
          have : p / (d : Int) * d ≤ 0 * d := Int.mul_le_mul_of_nonneg_right (by omega) (by omega)
          omega
        · exact hl
      · have hlast : (expN p d).getLast? = some z := by rw [List.getLast?_eq_getElem?, expN_pos h4, hm]; exact hz
        rw [expN_pos h4, List.getLast?_cons_of_ne_nil (expN_ne he)] at hlast
        have := expN_last _ d he (by omega) z hlast
        exact ⟨by omega, fun _ => this⟩
    have hge := expN_ge d p h4
    rw [pthL_set hm hz h1z]
    have hbz := hb z (List.mem_of_getElem? hz)
    refine ⟨by rw [List.length_set]; omega, fun y hy => ?_, fun k y hy => ?_⟩
    · rcases List.mem_or_eq_of_mem_set hy with h | h
      · obtain ⟨k, hk⟩ := List.mem_iff_getElem?.1 h
        have := hb y h
        cases k with
        | zero => have := hhead y hk; omega
        | succ k => have := hge k y hk; omega
      · subst h; omega
    · rw [List.getElem?_set] at hy
      split at hy
      · split at hy
        · injection hy with hy; have := hz1.2 (by omega); omega
        · cases hy
      · exact hge k y hy

/-- The common beginning of two paths. -/
def comR : List Int → List Int → List Int
  | x :: a, y :: b => if x = y then x :: comR a b else [min x y]
  | _, _ => []
theorem comR_nil (b : List Int) : comR [] b = [] := by cases b <;> rfl
theorem comR_nil' (a : List Int) : comR a [] = [] := by cases a <;> rfl
theorem comR_from : ∀ (a b : List Int) (k : Nat) z, (comR a b)[k]? = some z → a[k]? = some z ∨ b[k]? = some z
  | [], b, k, z, h => by rw [comR_nil] at h; cases h
  | x :: a, [], k, z, h => by rw [comR_nil'] at h; cases h
  | x :: a, y :: b, k, z, h => by
    rw [comR] at h
    split at h
    · cases k with
      | zero => exact .inl h
      | succ k => exact comR_from a b k z h
    · cases k with
      | zero =>
        simp at h
        rcases (by omega : z = x ∨ z = y) with e | e
        · left; rw [e]; rfl
        · right; rw [e]; rfl
      | succ k => cases h
theorem comR_ok {a b : List Int} (ha : PthOk a) (hb : PthOk b) : PthOk (comR a b) := by
  refine ⟨?_, fun z hz => ?_, fun k z hz => ?_⟩
  · have hh := comR_from a b
    rcases Nat.lt_or_ge 60 (comR a b).length with hl | hl
    · exfalso
      have h1 := ha.1
      have h2 := hb.1
      rcases hh 60 _ (List.getElem?_eq_getElem hl) with h | h
      · rw [List.getElem?_eq_none h1] at h; cases h
      · rw [List.getElem?_eq_none h2] at h; cases h
    · exact hl
  · obtain ⟨k, hk⟩ := List.mem_iff_getElem?.1 hz
    rcases comR_from a b k z hk with h | h
    · exact ha.2.1 z (List.mem_of_getElem? h)
    · exact hb.2.1 z (List.mem_of_getElem? h)
  · rcases comR_from a b (k + 1) z hz with h | h
    · exact ha.2.2 k z h
    · exact hb.2.2 k z h
/-- Without a 0 at the end. -/
def trmL (l : List Int) : List Int := if l.getLast? = some 0 then [] else l
def comL (a b : List Int) : List Int := trmL (comR a b)
theorem trm_ok {l : List Int} (h : PthOk l) : PthOk (trmL l) := by
  unfold trmL
  split
  · exact PthOk.nil
  · exact h
theorem trm_zero {l : List Int} {n : Nat} (h : PthOk l) (hl : l.length = n) (hn : 1 ≤ n) (hz : l[n - 1]? = some 0) : n = 1 ∧ l = [0] ∧ trmL l = [] := by
  have h1 : n = 1 := by
    rcases (by omega : n = 1 ∨ 2 ≤ n) with e | e
    · exact e
    · have := h.2.2 (n - 2) 0 (by rw [show n - 2 + 1 = n - 1 by omega]; exact hz)
      omega
  subst h1
  match l, hl with
  | [x], _ => simp at hz; subst hz; exact ⟨rfl, rfl, rfl⟩
theorem trm_keep {l : List Int} {n : Nat} {z : Int} (hl : l.length = n) (hz : l[n - 1]? = some z) (h : z ≠ 0) : trmL l = l := by
  unfold trmL
  rw [if_neg]
  rw [List.getLast?_eq_getElem?, hl, hz]
  intro e; injection e with e; exact h e
/-- So many of the common steps have been found. -/
def ComAt (a b : List Int) (k : Nat) (fs : List Int) : Prop := comR a b = fs ++ comR (a.drop k) (b.drop k)
theorem ComAt.start (a b : List Int) : ComAt a b 0 [] := rfl
theorem ComAt.step {a b : List Int} {k : Nat} {fs : List Int} {x : Int} (h : ComAt a b k fs) (ha : a[k]? = some x) (hb : b[k]? = some x) : ComAt a b (k + 1) (fs ++ [x]) := by
  unfold ComAt at *
  rw [h, drop_at ha, drop_at hb, comR, if_pos rfl]; simp
theorem ComAt.stop {a b : List Int} {k : Nat} {fs : List Int} {x y : Int} (h : ComAt a b k fs) (ha : a[k]? = some x) (hb : b[k]? = some y) (hne : x ≠ y) : comR a b = fs ++ [min x y] := by
  unfold ComAt at *
  rw [h, drop_at ha, drop_at hb, comR, if_neg hne]
theorem ComAt.done {a b : List Int} {k : Nat} {fs : List Int} (h : ComAt a b k fs) (hk : a.length ≤ k ∨ b.length ≤ k) : comR a b = fs := by
  unfold ComAt at *
  rcases hk with hk | hk
  · rw [h, List.drop_eq_nil_of_le hk, comR_nil, List.append_nil]
  · rw [h, List.drop_eq_nil_of_le hk, comR_nil', List.append_nil]

set_option maxHeartbeats 800000 in
theorem trimmed_any (A : Option Addr) (n cap : Nat) (zs : List Int) (w : World) (h : IRow w A n zs) (hcap : n ≤ cap) (hok : PthOk zs) :
    Calls Try.prog 105 #[.slice A n cap] w fun e w' => e = .returned (.slice A (trmL zs).length cap) ∧ w = w' := by
  have hl := h.len
  have hbd := h.bd
  rcases Nat.eq_zero_or_pos n with h0 | hpos
  · subst h0
    obtain rfl : zs = [] := List.eq_nil_of_length_eq_zero hl
    clear h
    go_enter Try.func105, Try.ntmps105
    go_wp2_with fail
    go_loopw [0] (fun l wr => l = .slice A 0 cap ∧ w = wr) (fun _ _ => 0)
    case atStart => exact ⟨rfl, rfl⟩
    case round =>
      obtain ⟨rfl, rfl⟩ := hrel
      go_wp2_with fail
      go_ret
      exact ⟨rfl, rfl⟩
  · obtain ⟨ad, z, rfl, hz, z1, z2, hc⟩ := h.at_ (k := n - 1) (by omega)
    have hn0 : (0 : Int) < (n : Int) := by omega
    by_cases hz0 : z = 0
    · subst hz0
      obtain ⟨e1, e2, e3⟩ := trm_zero hok hl hpos hz
      subst e1
      rw [e3]
      have hc1 : w.cell? (ad.add 0) = some (.int .i64 0) := hc
      have hc0 : w.cell? ad = some (.int .i64 0) := by rw [← addr_nil ad]; exact hc1
      clear h hok hz e2 e3 hc
      go_enter Try.func105, Try.ntmps105
      go_wp2_with fail
      go_loopw [0] (fun l wr => ∃ k : Nat, k ≤ 1 ∧ l = .slice (some ad) k cap ∧ w = wr) (fun l _ => (match l with | .slice _ n _ => n | _ => 0))
      case atStart => exact ⟨1, by omega, rfl, rfl⟩
      case round =>
        obtain ⟨k, hk, rfl, rfl⟩ := hrel
        rcases (by omega : k = 0 ∨ k = 1) with rfl | rfl
        · go_wp2_with fail
          go_ret
          exact ⟨rfl, rfl⟩
        · go_wp2_with fail
          go_roundw
          case rel => exact ⟨0, by simp⟩
          case measure => simp
    · rw [trm_keep hl hz hz0, hl]
      have hne : (z == 0) = false := by rw [beq_eq_false_iff_ne]; exact hz0
      clear h hok hz hz0 hl
      go_enter Try.func105, Try.ntmps105
      go_wp2_with fail
      go_loopw [0] (fun l wr => l = .slice (some ad) n cap ∧ w = wr) (fun _ _ => 0)
      case atStart => exact ⟨rfl, rfl⟩
      case round =>
        obtain ⟨rfl, rfl⟩ := hrel
        go_wp2_with fail
        go_ret
        exact ⟨rfl, rfl⟩
theorem l00Min_any (x y : Int) (w : World) : Calls Try.prog 103 #[.int .i64 x, .int .i64 y] w fun e w' => e = .returned (.int .i64 (min x y)) ∧ w = w' := by
  by_cases h : x < y
  · rw [show min x y = x by omega]
    go_enter Try.func103, Try.ntmps103
    go_wp2_with fail
    go_ret
    exact ⟨rfl, rfl⟩
  · rw [show min x y = y by omega]
    go_enter Try.func103, Try.ntmps103
    go_wp2_with fail
    go_ret
    exact ⟨rfl, rfl⟩
/-- A row one longer. -/
theorem com_ok {zs ys fs : List Int} {n : Nat} (h : PthOk (comR zs ys)) (e : comR zs ys = fs) (hl : fs.length = n) : PthOk fs ∧ comL zs ys = trmL fs := ⟨e ▸ h, by unfold comL; rw [e]⟩
theorem pth_row {w : World} {base e n c : Nat} {A : Option Addr} {fs : List Int} (h : w.ownsRow base e 1 (.slice A n c) n (fs.map (Value.int .i64))) (hok : PthOk fs) : IRow w A n fs :=
  IRow.of_own h (by have := own_lenI h; have := hok.1; omega) (fun z hz => by have := hok.2.1 z hz; unfold Rng; omega)
/-- The end of a common beginning. -/
theorem trm_own {w : World} {base n c : Nat} {A : Option Addr} {fs : List Int} (h : w.ownsRow base 2 1 (.slice A n c) n (fs.map (Value.int .i64))) : w.ownsRow base 2 1 (.slice A (trmL fs).length c) (trmL fs).length ((trmL fs).map (Value.int .i64)) := by
  have hl := own_lenI h
  unfold trmL
  split
  · exact own_truncI h 0 (Nat.zero_le _)
  · rw [hl]; exact h
theorem com_keep {w W : World} {a b : Addr} {x y : Value} (hx : w.cell? a = some x) (hy : w.cell? b = some y) (hb : Below w.heap.size w W) : W.cell? a = some x ∧ W.cell? b = some y ∧ Below w.heap.size w W :=
  ⟨(hb.cell (World.block_lt_of_cell? w a hx)).trans hx, (hb.cell (World.block_lt_of_cell? w b hy)).trans hy, hb⟩
set_option maxRecDepth 100000 in
set_option maxHeartbeats 3200000 in
theorem commonPath_any (A : Option Addr) (n cap : Nat) (zs : List Int) (A' : Option Addr) (n' cap' : Nat) (ys : List Int) (w : World) (h : IRow w A n zs) (h' : IRow w A' n' ys) (hz : PthOk zs) (hy : PthOk ys) :
    Calls Try.prog 69 #[.slice A n cap, .slice A' n' cap'] w fun e w' => RetN w.heap.size (comL zs ys).length (comL zs ys) e w' ∧ Below w.heap.size w w' := by
  have hbd := h.bd
  have hbd' := h'.bd
  have HZl := Lib.hid h.len
  have HYl := Lib.hid h'.len
  have HQ := Lib.hid (comR_ok hz hy)
  have hn60 : n ≤ 60 := by have := h.len; have := hz.1; omega
  obtain ⟨i0, hi, hz0, hz1, hz2⟩ := info_parts info_i64
  have hw := Lib.hid h; clear h
  have hw' := Lib.hid h'; clear h'
  clear hz hy
  have hown0 : (w.alloc (.cells #[] 2)).ownsRow w.heap.size 2 1 (.slice (some ⟨w.heap.size, 0, none⟩) 0 0) 0 (([] : List Int).map (Value.int .i64)) := World.ownsRow_made w #[] 0 (Nat.le_refl _) (by decide) rfl
  have HOZ := Lib.hid hown0
  clear hown0
  go_enter Try.func69, Try.ntmps69
  go_wp2_with fail
  go_loopw [5, 6] (fun l i wr => ∃ (k : Nat) (B : Option Addr) (c : Nat) (fs : List Int), k ≤ n ∧ k ≤ n' ∧ l = .slice B k c ∧ i = .int .i64 k ∧
    wr.ownsRow w.heap.size 2 1 (.slice B k c) k (fs.map (Value.int .i64)) ∧ Hid (ComAt zs ys k fs) ∧ Below w.heap.size w wr) (fun _ i _ => n - (intOf i).toNat)
  case atStart => exact ⟨0, none, 0, [], by omega, by omega, rfl, rfl, (World.ownsRow_nil ..), ComAt.start _ _, (Below.refl _ _)⟩
  case round =>
    obtain ⟨k, B, c, fs, hk, hk', rfl, rfl, hown, HC, hB⟩ := hrel
    have HO := Lib.hid hown
    have HF := Lib.hid hown.lt
    have hbase : w.heap.size ≤ wr.heap.size := hB.size
    have hbaseA : ∀ o, w.heap.size ≤ (wr.alloc o).heap.size := fun o => by simp; omega
    clear HOZ
    clear hown
    by_cases hlt : k < n ∧ k < n'
    · obtain ⟨hlt1, hlt2⟩ := hlt
      obtain ⟨ad, x, rfl, hx, x1, x2, hcx0⟩ := hw.out.at_ hlt1
      obtain ⟨ad', y, rfl, hy, y1, y2, hcy0⟩ := hw'.out.at_ hlt2
      have HX := Lib.hid hx
      have HY := Lib.hid hy
      have CX := Lib.hid hcx0
      have CY := Lib.hid hcy0
      obtain ⟨hcx, hcy, _⟩ := com_keep hcx0 hcy0 hB
      have hk0 : (0 : Int) ≤ (k : Int) := by omega
      have hk1 : (k : Int) < (n : Int) := by omega
      have hk2 : (k : Int) < (n' : Int) := by omega
      clear hx hy hcx0 hcy0
      rcases (by omega : x = y ∨ x < y ∨ y < x) with he | he | he
      · subst he
        go_wp2_with fail
        go_region_held3 (fun w' => w'.cell? (ad.add k) = some (.int .i64 x) ∧ w'.cell? (ad'.add k) = some (.int .i64 x) ∧ Below w.heap.size w w')
          (first | exact com_keep CX.out CY.out hB | exact com_keep CX.out CY.out hB.drew | exact com_keep CX.out CY.out (hB.drew.alloc hbase _) | exact com_keep CX.out CY.out (hB.alloc hbase _).drew | exact com_keep CX.out CY.out (((hB.alloc hbase _).drew).grown hgrow (hbaseA _) (fun k hk => (HF.out k hk).1)))
          (first | fail | ((refine step_append_lies _ (by rfl) _ _ _ (by rfl) w.heap.size 2 i0 _ 1 8 Try.underlying37 hi hz0 hz1 hz2 rfl (by omega) _ k _ (by rfl) ((HO.out.alloc _).drew) ⟨wr.heap.size, 0, none⟩ 1 1 [.int .i64 x] (by rfl) (by rfl) (World.news_of_block (cs := #[.int .i64 x]) (t := 2) (fr := (0, 0)) (heap_alloc_new wr _)) (by simp [Value.oneCell']) (by omega) (by show k + 1 ≤ 9223372036854775807; omega) (by omega) (by simp; omega) (wr.heap.size + 1) (by simp) ?_; intro g cap1 wn hown1 hgrow hat hlt1)))
        obtain ⟨gx, gy, hB2⟩ : wn.cell? (ad.add k) = some (.int .i64 x) ∧ wn.cell? (ad'.add k) = some (.int .i64 x) ∧ Below w.heap.size w wn := by assumption
        rw [show (fs.map (Value.int .i64) ++ [Value.int .i64 x]) = (fs ++ [x]).map (Value.int .i64) from by rw [List.map_append]; rfl] at hown1
        have HO1 := Lib.hid hown1
        clear hcx hcy hgrow hat hlt1 hown1
        go_wp2_with fail
        go_quiet (fail)
        have hB3 : Below w.heap.size w (wn.drewN nq) := hB2.trans (below_drewN _ _ _)
        have HO3 := Lib.hid (own_below HO1.out (below_drewN _ wn nq))
        generalize wn.drewN nq = wx at hB3 HO3 ⊢
        clear gx gy hB2 HO1
        go_wp2_with fail
        go_roundw
        case rel => exact ⟨k + 1, _, _, fs ++ [x], by omega, by omega, rfl, by go_num, HO3.out, HC.out.step HX.out HY.out, hB3⟩
        case measure => simp [intOf]; omega
      · have hne : (x != y) = true := by rw [bne_iff_ne]; omega
        have hyx : (y < x) = False := eq_false (by omega)
        go_wp2_with fail
        go_region_held3 (fun w' => w'.cell? (ad.add k) = some (.int .i64 x) ∧ w'.cell? (ad'.add k) = some (.int .i64 y) ∧ Below w.heap.size w w')
          (first | exact com_keep CX.out CY.out hB | exact com_keep CX.out CY.out hB.drew | exact com_keep CX.out CY.out (hB.drew.alloc hbase _) | exact com_keep CX.out CY.out (hB.alloc hbase _).drew | exact com_keep CX.out CY.out (((hB.alloc hbase _).drew).grown hgrow (hbaseA _) (fun k hk => (HF.out k hk).1)))
          (first | fail | ((refine step_append_lies _ (by rfl) _ _ _ (by rfl) w.heap.size 2 i0 _ 1 8 Try.underlying37 hi hz0 hz1 hz2 rfl (by omega) _ k _ (by rfl) ((HO.out.alloc _).drew) ⟨wr.heap.size, 0, none⟩ 1 1 [.int .i64 x] (by rfl) (by rfl) (World.news_of_block (cs := #[.int .i64 x]) (t := 2) (fr := (0, 0)) (heap_alloc_new wr _)) (by simp [Value.oneCell']) (by omega) (by show k + 1 ≤ 9223372036854775807; omega) (by omega) (by simp; omega) (wr.heap.size + 1) (by simp) ?_; intro g cap1 wn hown1 hgrow hat hlt1)))
        obtain ⟨gx, gy, hB2⟩ : wn.cell? (ad.add k) = some (.int .i64 x) ∧ wn.cell? (ad'.add k) = some (.int .i64 y) ∧ Below w.heap.size w wn := by assumption
        rw [show (fs.map (Value.int .i64) ++ [Value.int .i64 x]) = (fs ++ [x]).map (Value.int .i64) from by rw [List.map_append]; rfl] at hown1
        have HO1 := Lib.hid hown1
        clear hcx hcy hgrow hat hlt1 hown1
        go_wp2_with fail
        go_quiet (fail)
        have hB3 : Below w.heap.size w (wn.drewN nq) := hB2.trans (below_drewN _ _ _)
        have HO3 := Lib.hid (own_below HO1.out (below_drewN _ wn nq))
        generalize wn.drewN nq = wx at hB3 HO3 ⊢
        clear gx gy hB2 HO1
        have he0 := HC.out.stop HX.out HY.out (by omega)
        rw [show min x y = x by omega] at he0
        obtain ⟨ok, ec⟩ := com_ok HQ.out he0 (own_lenI HO3.out)
        have EC := Lib.hid ec
        clear he0 ec
        go_wp2_with fail
        refine (trimmed_any _ _ _ (fs ++ [x]) _ (pth_row HO3.out ok) (own_cap HO3.out) ok).mono ?_
        rintro e w' ⟨rfl, rfl⟩
        go_wp2_with fail
        go_ret
        rw [EC.out]
        exact ⟨⟨_, _, rfl, trm_own HO3.out⟩, hB3⟩
      · have hne : (x != y) = true := by rw [bne_iff_ne]; omega
        go_wp2_with fail
        go_region_held3 (fun w' => w'.cell? (ad.add k) = some (.int .i64 x) ∧ w'.cell? (ad'.add k) = some (.int .i64 y) ∧ Below w.heap.size w w')
          (first | exact com_keep CX.out CY.out hB | exact com_keep CX.out CY.out hB.drew | exact com_keep CX.out CY.out (hB.drew.alloc hbase _) | exact com_keep CX.out CY.out (hB.alloc hbase _).drew | exact com_keep CX.out CY.out (((hB.alloc hbase _).drew).grown hgrow (hbaseA _) (fun k hk => (HF.out k hk).1)))
          (first | fail | ((refine step_append_lies _ (by rfl) _ _ _ (by rfl) w.heap.size 2 i0 _ 1 8 Try.underlying37 hi hz0 hz1 hz2 rfl (by omega) _ k _ (by rfl) ((HO.out.alloc _).drew) ⟨wr.heap.size, 0, none⟩ 1 1 [.int .i64 y] (by rfl) (by rfl) (World.news_of_block (cs := #[.int .i64 y]) (t := 2) (fr := (0, 0)) (heap_alloc_new wr _)) (by simp [Value.oneCell']) (by omega) (by show k + 1 ≤ 9223372036854775807; omega) (by omega) (by simp; omega) (wr.heap.size + 1) (by simp) ?_; intro g cap1 wn hown1 hgrow hat hlt1)))
        obtain ⟨gx, gy, hB2⟩ : wn.cell? (ad.add k) = some (.int .i64 x) ∧ wn.cell? (ad'.add k) = some (.int .i64 y) ∧ Below w.heap.size w wn := by assumption
        rw [show (fs.map (Value.int .i64) ++ [Value.int .i64 y]) = (fs ++ [y]).map (Value.int .i64) from by rw [List.map_append]; rfl] at hown1
        have HO1 := Lib.hid hown1
        clear hcx hcy hgrow hat hlt1 hown1
        go_wp2_with fail
        go_quiet (fail)
        have hB3 : Below w.heap.size w (wn.drewN nq) := hB2.trans (below_drewN _ _ _)
        have HO3 := Lib.hid (own_below HO1.out (below_drewN _ wn nq))
        generalize wn.drewN nq = wx at hB3 HO3 ⊢
        clear gx gy hB2 HO1
        have he0 := HC.out.stop HX.out HY.out (by omega)
        rw [show min x y = y by omega] at he0
        obtain ⟨ok, ec⟩ := com_ok HQ.out he0 (own_lenI HO3.out)
        have EC := Lib.hid ec
        clear he0 ec
        go_wp2_with fail
        refine (trimmed_any _ _ _ (fs ++ [y]) _ (pth_row HO3.out ok) (own_cap HO3.out) ok).mono ?_
        rintro e w' ⟨rfl, rfl⟩
        go_wp2_with fail
        go_ret
        rw [EC.out]
        exact ⟨⟨_, _, rfl, trm_own HO3.out⟩, hB3⟩
    · rcases (by omega : ¬ k < n ∨ (k < n ∧ ¬ k < n')) with hg | ⟨hg, hg'⟩
      · have hk1 : ¬ (k : Int) < (n : Int) := by omega
        have he0 := HC.out.done (by rw [HZl.out, HYl.out]; omega)
        obtain ⟨ok, ec⟩ := com_ok HQ.out he0 (own_lenI HO.out)
        have EC := Lib.hid ec
        clear he0 ec
        go_wp2_with fail
        refine (trimmed_any _ _ _ fs _ (pth_row HO.out ok) (own_cap HO.out) ok).mono ?_
        rintro e w' ⟨rfl, rfl⟩
        go_wp2_with fail
        go_ret
        rw [EC.out]
        exact ⟨⟨_, _, rfl, trm_own HO.out⟩, hB⟩
      · have hk1 : (k : Int) < (n : Int) := by omega
        have hk2 : ¬ (k : Int) < (n' : Int) := by omega
        have he0 := HC.out.done (by rw [HZl.out, HYl.out]; omega)
        obtain ⟨ok, ec⟩ := com_ok HQ.out he0 (own_lenI HO.out)
        have EC := Lib.hid ec
        clear he0 ec
        go_wp2_with fail
        refine (trimmed_any _ _ _ fs _ (pth_row HO.out ok) (own_cap HO.out) ok).mono ?_
        rintro e w' ⟨rfl, rfl⟩
        go_wp2_with fail
        go_ret
        rw [EC.out]
        exact ⟨⟨_, _, rfl, trm_own HO.out⟩, hB⟩
set_option maxRecDepth 100000 in
set_option maxHeartbeats 3200000 in
theorem l05Common_any (A : Option Addr) (n cap : Nat) (zs : List Int) (A' : Option Addr) (n' cap' : Nat) (ys : List Int) (w : World) (h : IRow w A n zs) (h' : IRow w A' n' ys) (hz : PthOk zs) (hy : PthOk ys) :
    Calls Try.prog 65 #[.slice A n cap, .slice A' n' cap'] w fun e w' => RetN w.heap.size (comL zs ys).length (comL zs ys) e w' ∧ Below w.heap.size w w' := by
  have hbd := h.bd
  have hbd' := h'.bd
  have HZl := Lib.hid h.len
  have HYl := Lib.hid h'.len
  have HQ := Lib.hid (comR_ok hz hy)
  have hn60 : n ≤ 60 := by have := h.len; have := hz.1; omega
  obtain ⟨i0, hi, hz0, hz1, hz2⟩ := info_parts info_i64
  have hw := Lib.hid h; clear h
  have hw' := Lib.hid h'; clear h'
  clear hz hy
  have hown0 : (w.alloc (.cells #[] 2)).ownsRow w.heap.size 2 1 (.slice (some ⟨w.heap.size, 0, none⟩) 0 0) 0 (([] : List Int).map (Value.int .i64)) := World.ownsRow_made w #[] 0 (Nat.le_refl _) (by decide) rfl
  have HOZ := Lib.hid hown0
  clear hown0
  go_enter Try.func65, Try.ntmps65
  go_wp2_with fail
  go_loopw [5, 6] (fun l i wr => ∃ (k : Nat) (B : Option Addr) (c : Nat) (fs : List Int), k ≤ n ∧ k ≤ n' ∧ l = .slice B k c ∧ i = .int .i64 k ∧
    wr.ownsRow w.heap.size 2 1 (.slice B k c) k (fs.map (Value.int .i64)) ∧ Hid (ComAt zs ys k fs) ∧ Below w.heap.size w wr) (fun _ i _ => n - (intOf i).toNat)
  case atStart => exact ⟨0, _, 0, [], by omega, by omega, rfl, rfl, HOZ.out, ComAt.start _ _, ((Below.refl _ _).alloc (Nat.le_refl _) _)⟩
  case round =>
    obtain ⟨k, B, c, fs, hk, hk', rfl, rfl, hown, HC, hB⟩ := hrel
    have HO := Lib.hid hown
    have HF := Lib.hid hown.lt
    have hbase : w.heap.size ≤ wr.heap.size := hB.size
    have hbaseA : ∀ o, w.heap.size ≤ (wr.alloc o).heap.size := fun o => by simp; omega
    clear HOZ
    clear hown
    by_cases hlt : k < n ∧ k < n'
    · obtain ⟨hlt1, hlt2⟩ := hlt
      obtain ⟨ad, x, rfl, hx, x1, x2, hcx0⟩ := hw.out.at_ hlt1
      obtain ⟨ad', y, rfl, hy, y1, y2, hcy0⟩ := hw'.out.at_ hlt2
      have HX := Lib.hid hx
      have HY := Lib.hid hy
      have CX := Lib.hid hcx0
      have CY := Lib.hid hcy0
      obtain ⟨hcx, hcy, _⟩ := com_keep hcx0 hcy0 hB
      have hk0 : (0 : Int) ≤ (k : Int) := by omega
      have hk1 : (k : Int) < (n : Int) := by omega
      have hk2 : (k : Int) < (n' : Int) := by omega
      clear hx hy hcx0 hcy0
      rcases (by omega : x = y ∨ x < y ∨ y < x) with he | he | he
      · subst he
        have HMn : Hid (∀ W, Calls Try.prog 103 #[.int .i64 x, .int .i64 x] W fun e w' => e = .returned (.int .i64 x) ∧ W = w') := fun W => by have := l00Min_any x x W; rw [show min x x = x by omega] at this; exact this
        go_wp2_with fail
        go_region_held3 (fun w' => w'.cell? (ad.add k) = some (.int .i64 x) ∧ w'.cell? (ad'.add k) = some (.int .i64 x) ∧ Below w.heap.size w w')
          (first | exact com_keep CX.out CY.out hB | exact com_keep CX.out CY.out hB.drew | exact com_keep CX.out CY.out (hB.drew.alloc hbase _) | exact com_keep CX.out CY.out (hB.alloc hbase _).drew | exact com_keep CX.out CY.out (((hB.alloc hbase _).drew).grown hgrow (hbaseA _) (fun k hk => (HF.out k hk).1)))
          (first | (go_at_call 103; refine (HMn.out _).mono ?_; rintro e w1 ⟨rfl, rfl⟩) | ((refine step_append_lies _ (by rfl) _ _ _ (by rfl) w.heap.size 2 i0 _ 1 8 Try.underlying37 hi hz0 hz1 hz2 rfl (by omega) _ k _ (by rfl) ((HO.out.alloc _).drew) ⟨wr.heap.size, 0, none⟩ 1 1 [.int .i64 x] (by rfl) (by rfl) (World.news_of_block (cs := #[.int .i64 x]) (t := 2) (fr := (0, 0)) (heap_alloc_new wr _)) (by simp [Value.oneCell']) (by omega) (by show k + 1 ≤ 9223372036854775807; omega) (by omega) (by simp; omega) (wr.heap.size + 1) (by simp) ?_; intro g cap1 wn hown1 hgrow hat hlt1)))
        obtain ⟨gx, gy, hB2⟩ : wn.cell? (ad.add k) = some (.int .i64 x) ∧ wn.cell? (ad'.add k) = some (.int .i64 x) ∧ Below w.heap.size w wn := by assumption
        rw [show (fs.map (Value.int .i64) ++ [Value.int .i64 x]) = (fs ++ [x]).map (Value.int .i64) from by rw [List.map_append]; rfl] at hown1
        have HO1 := Lib.hid hown1
        clear hcx hcy hgrow hat hlt1 hown1
        go_wp2_with fail
        go_quiet (fail)
        have hB3 : Below w.heap.size w (wn.drewN nq) := hB2.trans (below_drewN _ _ _)
        have HO3 := Lib.hid (own_below HO1.out (below_drewN _ wn nq))
        generalize wn.drewN nq = wx at hB3 HO3 ⊢
        clear gx gy hB2 HO1
        go_wp2_with fail
        go_roundw
        case rel => exact ⟨k + 1, _, _, fs ++ [x], by omega, by omega, rfl, by go_num, HO3.out, HC.out.step HX.out HY.out, hB3⟩
        case measure => simp [intOf]; omega
      · have HMn : Hid (∀ W, Calls Try.prog 103 #[.int .i64 x, .int .i64 y] W fun e w' => e = .returned (.int .i64 x) ∧ W = w') := fun W => by have := l00Min_any x y W; rw [show min x y = x by omega] at this; exact this
        have hne : (x != y) = true := by rw [bne_iff_ne]; omega
        go_wp2_with fail
        go_region_held3 (fun w' => w'.cell? (ad.add k) = some (.int .i64 x) ∧ w'.cell? (ad'.add k) = some (.int .i64 y) ∧ Below w.heap.size w w')
          (first | exact com_keep CX.out CY.out hB | exact com_keep CX.out CY.out hB.drew | exact com_keep CX.out CY.out (hB.drew.alloc hbase _) | exact com_keep CX.out CY.out (hB.alloc hbase _).drew | exact com_keep CX.out CY.out (((hB.alloc hbase _).drew).grown hgrow (hbaseA _) (fun k hk => (HF.out k hk).1)))
          (first | (go_at_call 103; refine (HMn.out _).mono ?_; rintro e w1 ⟨rfl, rfl⟩) | ((refine step_append_lies _ (by rfl) _ _ _ (by rfl) w.heap.size 2 i0 _ 1 8 Try.underlying37 hi hz0 hz1 hz2 rfl (by omega) _ k _ (by rfl) ((HO.out.alloc _).drew) ⟨wr.heap.size, 0, none⟩ 1 1 [.int .i64 x] (by rfl) (by rfl) (World.news_of_block (cs := #[.int .i64 x]) (t := 2) (fr := (0, 0)) (heap_alloc_new wr _)) (by simp [Value.oneCell']) (by omega) (by show k + 1 ≤ 9223372036854775807; omega) (by omega) (by simp; omega) (wr.heap.size + 1) (by simp) ?_; intro g cap1 wn hown1 hgrow hat hlt1)))
        obtain ⟨gx, gy, hB2⟩ : wn.cell? (ad.add k) = some (.int .i64 x) ∧ wn.cell? (ad'.add k) = some (.int .i64 y) ∧ Below w.heap.size w wn := by assumption
        rw [show (fs.map (Value.int .i64) ++ [Value.int .i64 x]) = (fs ++ [x]).map (Value.int .i64) from by rw [List.map_append]; rfl] at hown1
        have HO1 := Lib.hid hown1
        clear hcx hcy hgrow hat hlt1 hown1
        go_wp2_with fail
        go_quiet (fail)
        have hB3 : Below w.heap.size w (wn.drewN nq) := hB2.trans (below_drewN _ _ _)
        have HO3 := Lib.hid (own_below HO1.out (below_drewN _ wn nq))
        generalize wn.drewN nq = wx at hB3 HO3 ⊢
        clear gx gy hB2 HO1
        have he0 := HC.out.stop HX.out HY.out (by omega)
        rw [show min x y = x by omega] at he0
        obtain ⟨ok, ec⟩ := com_ok HQ.out he0 (own_lenI HO3.out)
        have hzl : (fs ++ [x])[k]? = some x := by have := own_lenI HO3.out; simp at this; rw [← this]; simp
        have hcell := own_cellI HO3.out hzl
        by_cases hz0' : x = 0
        · have et := (trm_zero ok (own_lenI HO3.out) (by omega) (by rw [← hz0']; exact hzl)).2.2
          have ET := Lib.hid (ec.trans et)
          have hq : (x == 0) = true := by rw [beq_iff_eq]; exact hz0'
          clear ec et he0 hzl hz0'
          go_wp2_with fail
          go_ret
          rw [ET.out]
          refine ⟨⟨_, _, rfl, ?_⟩, hB3.alloc hB3.size _⟩
          have hm := World.ownsRow_made (base := w.heap.size) (e := 2) (size := 1) wx #[] 0 hB3.size (by decide) rfl; simpa using hm
        · have ET := Lib.hid (ec.trans (trm_keep (own_lenI HO3.out) hzl hz0'))
          have hq : (x == 0) = false := by rw [beq_eq_false_iff_ne]; exact hz0'
          have HL := Lib.hid (own_lenI HO3.out)
          clear ec he0 hzl hz0'
          go_wp2_with fail
          go_ret
          rw [ET.out]
          refine ⟨⟨some ⟨g, 0, none⟩, cap1, ?_, ?_⟩, hB3⟩
          rotate_left
          · rw [HL.out]; exact HO3.out
          · rw [HL.out]; rfl
      · have HMn : Hid (∀ W, Calls Try.prog 103 #[.int .i64 x, .int .i64 y] W fun e w' => e = .returned (.int .i64 y) ∧ W = w') := fun W => by have := l00Min_any x y W; rw [show min x y = y by omega] at this; exact this
        have hne : (x != y) = true := by rw [bne_iff_ne]; omega
        go_wp2_with fail
        go_region_held3 (fun w' => w'.cell? (ad.add k) = some (.int .i64 x) ∧ w'.cell? (ad'.add k) = some (.int .i64 y) ∧ Below w.heap.size w w')
          (first | exact com_keep CX.out CY.out hB | exact com_keep CX.out CY.out hB.drew | exact com_keep CX.out CY.out (hB.drew.alloc hbase _) | exact com_keep CX.out CY.out (hB.alloc hbase _).drew | exact com_keep CX.out CY.out (((hB.alloc hbase _).drew).grown hgrow (hbaseA _) (fun k hk => (HF.out k hk).1)))
          (first | (go_at_call 103; refine (HMn.out _).mono ?_; rintro e w1 ⟨rfl, rfl⟩) | ((refine step_append_lies _ (by rfl) _ _ _ (by rfl) w.heap.size 2 i0 _ 1 8 Try.underlying37 hi hz0 hz1 hz2 rfl (by omega) _ k _ (by rfl) ((HO.out.alloc _).drew) ⟨wr.heap.size, 0, none⟩ 1 1 [.int .i64 y] (by rfl) (by rfl) (World.news_of_block (cs := #[.int .i64 y]) (t := 2) (fr := (0, 0)) (heap_alloc_new wr _)) (by simp [Value.oneCell']) (by omega) (by show k + 1 ≤ 9223372036854775807; omega) (by omega) (by simp; omega) (wr.heap.size + 1) (by simp) ?_; intro g cap1 wn hown1 hgrow hat hlt1)))
        obtain ⟨gx, gy, hB2⟩ : wn.cell? (ad.add k) = some (.int .i64 x) ∧ wn.cell? (ad'.add k) = some (.int .i64 y) ∧ Below w.heap.size w wn := by assumption
        rw [show (fs.map (Value.int .i64) ++ [Value.int .i64 y]) = (fs ++ [y]).map (Value.int .i64) from by rw [List.map_append]; rfl] at hown1
        have HO1 := Lib.hid hown1
        clear hcx hcy hgrow hat hlt1 hown1
        go_wp2_with fail
        go_quiet (fail)
        have hB3 : Below w.heap.size w (wn.drewN nq) := hB2.trans (below_drewN _ _ _)
        have HO3 := Lib.hid (own_below HO1.out (below_drewN _ wn nq))
        generalize wn.drewN nq = wx at hB3 HO3 ⊢
        clear gx gy hB2 HO1
        have he0 := HC.out.stop HX.out HY.out (by omega)
        rw [show min x y = y by omega] at he0
        obtain ⟨ok, ec⟩ := com_ok HQ.out he0 (own_lenI HO3.out)
        have hzl : (fs ++ [y])[k]? = some y := by have := own_lenI HO3.out; simp at this; rw [← this]; simp
        have hcell := own_cellI HO3.out hzl
        by_cases hz0' : y = 0
        · have et := (trm_zero ok (own_lenI HO3.out) (by omega) (by rw [← hz0']; exact hzl)).2.2
          have ET := Lib.hid (ec.trans et)
          have hq : (y == 0) = true := by rw [beq_iff_eq]; exact hz0'
          clear ec et he0 hzl hz0'
          go_wp2_with fail
          go_ret
          rw [ET.out]
          refine ⟨⟨_, _, rfl, ?_⟩, hB3.alloc hB3.size _⟩
          have hm := World.ownsRow_made (base := w.heap.size) (e := 2) (size := 1) wx #[] 0 hB3.size (by decide) rfl; simpa using hm
        · have ET := Lib.hid (ec.trans (trm_keep (own_lenI HO3.out) hzl hz0'))
          have hq : (y == 0) = false := by rw [beq_eq_false_iff_ne]; exact hz0'
          have HL := Lib.hid (own_lenI HO3.out)
          clear ec he0 hzl hz0'
          go_wp2_with fail
          go_ret
          rw [ET.out]
          refine ⟨⟨some ⟨g, 0, none⟩, cap1, ?_, ?_⟩, hB3⟩
          rotate_left
          · rw [HL.out]; exact HO3.out
          · rw [HL.out]; rfl
    · rcases (by omega : ¬ k < n ∨ (k < n ∧ ¬ k < n')) with hg | ⟨hg, hg'⟩
      · have hk1 : ¬ (k : Int) < (n : Int) := by omega
        have he0 := HC.out.done (by rw [HZl.out, HYl.out]; omega)
        obtain ⟨ok, ec⟩ := com_ok HQ.out he0 (own_lenI HO.out)
        rcases Nat.eq_zero_or_pos k with h0 | hpos
        · subst h0
          obtain rfl : fs = [] := List.eq_nil_of_length_eq_zero (own_lenI HO.out)
          have ET := Lib.hid ec
          clear ec he0
          go_wp2_with fail
          go_ret
          rw [ET.out]
          exact ⟨⟨_, _, rfl, HO.out⟩, hB⟩
        · obtain ⟨z, hzl⟩ : ∃ z, fs[k - 1]? = some z := ⟨_, List.getElem?_eq_getElem (by have := own_lenI HO.out; omega)⟩
          obtain ⟨g, rfl, _, _⟩ := own_some HO.out hpos
          have hcell := own_cellI HO.out hzl
          by_cases hz0' : z = 0
          · have et := (trm_zero ok (own_lenI HO.out) (by omega) (by rw [← hz0']; exact hzl)).2.2
            have ET := Lib.hid (ec.trans et)
            have hq : (z == 0) = true := by rw [beq_iff_eq]; exact hz0'
            clear ec et he0 hzl hz0'
            go_wp2_with fail
            go_ret
            rw [ET.out]
            refine ⟨⟨_, _, rfl, ?_⟩, hB.alloc hB.size _⟩
            have hm := World.ownsRow_made (base := w.heap.size) (e := 2) (size := 1) wr #[] 0 hB.size (by decide) rfl; simpa using hm
          · have ET := Lib.hid (ec.trans (trm_keep (own_lenI HO.out) hzl hz0'))
            have hq : (z == 0) = false := by rw [beq_eq_false_iff_ne]; exact hz0'
            have HL := Lib.hid (own_lenI HO.out)
            clear ec he0 hzl hz0'
            go_wp2_with fail
            go_ret
            rw [ET.out]
            refine ⟨⟨some ⟨g, 0, none⟩, c, ?_, ?_⟩, hB⟩
            rotate_left
            · rw [HL.out]; exact HO.out
            · rw [HL.out]; rfl
      · have hk1 : (k : Int) < (n : Int) := by omega
        have hk2 : ¬ (k : Int) < (n' : Int) := by omega
        have he0 := HC.out.done (by rw [HZl.out, HYl.out]; omega)
        obtain ⟨ok, ec⟩ := com_ok HQ.out he0 (own_lenI HO.out)
        rcases Nat.eq_zero_or_pos k with h0 | hpos
        · subst h0
          obtain rfl : fs = [] := List.eq_nil_of_length_eq_zero (own_lenI HO.out)
          have ET := Lib.hid ec
          clear ec he0
          go_wp2_with fail
          go_ret
          rw [ET.out]
          exact ⟨⟨_, _, rfl, HO.out⟩, hB⟩
        · obtain ⟨z, hzl⟩ : ∃ z, fs[k - 1]? = some z := ⟨_, List.getElem?_eq_getElem (by have := own_lenI HO.out; omega)⟩
          obtain ⟨g, rfl, _, _⟩ := own_some HO.out hpos
          have hcell := own_cellI HO.out hzl
          by_cases hz0' : z = 0
          · have et := (trm_zero ok (own_lenI HO.out) (by omega) (by rw [← hz0']; exact hzl)).2.2
            have ET := Lib.hid (ec.trans et)
            have hq : (z == 0) = true := by rw [beq_iff_eq]; exact hz0'
            clear ec et he0 hzl hz0'
            go_wp2_with fail
            go_ret
            rw [ET.out]
            refine ⟨⟨_, _, rfl, ?_⟩, hB.alloc hB.size _⟩
            have hm := World.ownsRow_made (base := w.heap.size) (e := 2) (size := 1) wr #[] 0 hB.size (by decide) rfl; simpa using hm
          · have ET := Lib.hid (ec.trans (trm_keep (own_lenI HO.out) hzl hz0'))
            have hq : (z == 0) = false := by rw [beq_eq_false_iff_ne]; exact hz0'
            have HL := Lib.hid (own_lenI HO.out)
            clear ec he0 hzl hz0'
            go_wp2_with fail
            go_ret
            rw [ET.out]
            refine ⟨⟨some ⟨g, 0, none⟩, c, ?_, ?_⟩, hB⟩
            rotate_left
            · rw [HL.out]; exact HO.out
            · rw [HL.out]; rfl
end Go.Proofs.Ytjkonkoiofhefaa
