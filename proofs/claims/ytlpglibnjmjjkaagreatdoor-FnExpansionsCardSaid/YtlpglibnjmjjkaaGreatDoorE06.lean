/-
  Terms read from texts: contract of the program's function.
  The paths to fractions and their bounds: plain laws on short terms, runs and bounds.
  Lemmas for the laws' statements that draw their order: what lies in four cells of a base world is kept by whatever extends that world.
  Contracts of the quotient, of fractions made, compared and rounded down; the walks of their laws.
  The order of terms: contracts of the program's and of the reference's functions; the walk of the law FnExactCompareTerms.
  The paths to fractions and the codes of positive fractions: contracts of the program's and of the reference's functions.
  The common beginning of two paths: plain laws; contracts of the program's and of the reference's functions.
  Terms are ordered as their values are: plain laws; the walk of the law FnTermOrder.
  The convergents of the short terms of a fraction, and those of its other form: the last one is the fraction; two that follow each other are neighbours: plain laws.
  The laws of expansions: plain laws.
  The laws of expansions: the comparison of lists; the walk of the law FnExpansions.
  Conditions: those of the law's own text, and that the package-level variables hold what the program's text lays in them.
-/
import Derived.Test.YtlpglibnjmjjkaaGreatDoorProg
import Derived.Test.YtlpglibnjmjjkaaGreatDoorShelf
import Derived.Test.YtlpglibnjmjjkaaGreatDoorE01
import Derived.Test.YtlpglibnjmjjkaaGreatDoorE02
import Derived.Test.YtlpglibnjmjjkaaGreatDoorE04
import Derived.Test.YtlpglibnjmjjkaaGreatDoorE03
import Derived.Test.YtlpglibnjmjjkaaGreatDoorE05
import Derived.Handy
import Derived.BigQuiet
import Derived.Deep.QuietTactic
import Derived.Deep.RegionHeld3
import Derived.Deep.DrawnRows
import Derived.Deep.DeepCutAuto
import Derived.Deep.AppendLies
namespace Go.Proofs.YtlpglibnjmjjkaaGreatDoor
open Go.RowKit
set_option linter.unusedVariables false
set_option linter.unusedSimpArgs false
attribute [local go_sem ↓] Go.wp_at_zero Go.wp_at_succ

theorem replaceK_len : ∀ (k : Nat) (l : List UInt8), (Lib.replaceK [59, 32] [44, 32] k l).length = l.length
  | 0, l => rfl
  | k + 1, l => by
    rw [Lib.replaceK]
    split
    · rfl
    · next hi =>
      have h0 := Lib.index_ge l [59, 32]
      rw [beq_iff_eq] at hi
      have h2 := Lib.index_room l [59, 32] (by omega)
      rw [List.length_append, List.length_append, replaceK_len k, List.length_take, List.length_drop]
      simp at h2 ⊢
      omega
theorem rep_len (l : List UInt8) : (Lib.replace l [59, 32] [44, 32] 1).length = l.length := by
  unfold Lib.replace
  rw [if_neg (by decide)]
  exact replaceK_len _ _
theorem splitK_ne (sep : List UInt8) (k : Nat) (l : List UInt8) : Lib.splitK sep 0 k l ≠ [] := by
  cases k with
  | zero => rw [Lib.splitK]; simp
  | succ k => rw [Lib.splitK]; split <;> simp
theorem cutS_any (t : ByteArray) (w : World) (hs : t.size ≤ 1048576) :
    Calls Tryz.prog 48 #[.string t, .string ⟨#[93]⟩] w fun e w' => e = .returned (.tuple #[.string ⟨(Lib.trimSuffix t.data.toList [93]).toArray⟩, .bool (Lib.hasSuffix t.data.toList [93])]) ∧ w' = w :=
  Tryz.strings_CutSuffix t ⟨#[93]⟩ w (by omega)
theorem repl_any (t : ByteArray) (w : World) (hs : t.size ≤ 1048576) (hm : Mx w) :
    Calls Tryz.prog 51 #[.string t, .string ⟨#[59, 32]⟩, .string ⟨#[44, 32]⟩, .int .i64 1] w fun e w' => e = .returned (.string ⟨(Lib.replace t.data.toList [59, 32] [44, 32] 1).toArray⟩) ∧ Below w.heap.size w w' := by
  obtain ⟨m, hm⟩ := hm
  have hc := Lib.countB_le ⟨#[59, 32]⟩ (by decide) _ t (Nat.le_refl _)
  exact Tryz.strings_Replace t ⟨#[59, 32]⟩ ⟨#[44, 32]⟩ 1 m w (by omega) hm (by decide) (by
    have : (⟨#[44, 32]⟩ : ByteArray).size = 2 := rfl
    rw [this]; omega)
theorem splitComma (s : ByteArray) (w : World) (hs : s.size ≤ 1048576) (hm : Mx w) :
    Calls Tryz.prog 50 #[.string s, .string ⟨#[44, 32]⟩] w fun e w' => ∃ ts : List ByteArray, e = .returned (.slice (some ⟨w.heap.size, 0, none⟩) ts.length ts.length) ∧ ts.map (fun t : ByteArray => t.data.toList) = Lib.splitK [44, 32] 0 (Lib.count s.data.toList [44, 32]) s.data.toList ∧
      (∀ (k : Nat) t, ts[k]? = some t → w'.cell? ⟨w.heap.size, k, none⟩ = some (.string t)) ∧ Below w.heap.size w w' ∧ w.heap.size < w'.heap.size := by
  obtain ⟨m, hm⟩ := hm
  refine (Tryz.strings_Split s ⟨#[44, 32]⟩ m w (by omega) hm (by decide)).mono ?_
  rintro e w' ⟨he, hw⟩
  have e1 : (Lib.splitB ⟨#[44, 32]⟩ 0 (Lib.countB s ⟨#[44, 32]⟩) s).map (fun t : ByteArray => t.data.toList) = Lib.splitK [44, 32] 0 (Lib.count s.data.toList [44, 32]) s.data.toList := Lib.splitB_data ..
  have e3 := Lib.splitB_all ⟨#[44, 32]⟩ (by decide) 0 _ s rfl
  generalize Lib.splitB ⟨#[44, 32]⟩ 0 (Lib.countB s ⟨#[44, 32]⟩) s = ts at *
  refine ⟨ts, by rw [e3]; exact he, e1, fun k t ht => ?_, ?_, by rw [hw]; simp⟩
  · rw [hw]
    exact newcellA rfl (by simp [ht])
  · rw [hw]; exact (Below.refl _ _).alloc (Nat.le_refl _) _
set_option maxRecDepth 100000 in
set_option maxHeartbeats 3200000 in
theorem implRtm_any (s : ByteArray) (w : World) (hs : s.size ≤ 1048576) (hd : Dr w) (he : Er w) (hm : Mx w) (R : List Int) (b : Bool) (hR : TgR s R b) :
    Calls Tryz.prog 12 #[.string s] w fun e w' => ResT w.heap.size R b e w' ∧ Below w.heap.size w w' := by
  have HR := Lib.hid hR
  have HD := Lib.hid hd
  have HE := Lib.hid he
  have HM := Lib.hid hm
  clear hR hd he hm
  by_cases h91 : ∃ r, s.data.toList = 91 :: r
  · obtain ⟨r, hr⟩ := h91
    have HC1 := Lib.hid (cutP_hit s 91 r hr w)
    obtain ⟨u, hu⟩ : ∃ u : ByteArray, u = ⟨r.toArray⟩ := ⟨_, rfl⟩
    rw [← hu] at HC1
    have hud : u.data.toList = r := by subst hu; simp
    have hlr : s.data.toList.length = r.length + 1 := by rw [hr]; rfl
    rw [len_size] at hlr
    have hus : u.size ≤ 1048576 := by have := len_size u; rw [hud] at this; omega
    have HC2 := Lib.hid (cutS_any u w hus)
    rw [hud] at HC2
    cases hsf : Lib.hasSuffix r [93]
    · obtain ⟨rfl, rfl⟩ := HR.out.no (fun zs hz => by
        have h1 := hz.data
        rw [hr] at h1
        have h2 : r = inL zs ++ [93] := (List.cons.inj h1).2
        rw [h2] at hsf
        have : Lib.hasSuffix (inL zs ++ [93]) [93] = true := List.isSuffixOf_iff_suffix.2 ⟨inL zs, rfl⟩
        rw [this] at hsf; cases hsf)
      rw [hsf] at HC2
      obtain ⟨v, hv⟩ : ∃ v : ByteArray, v = ⟨(Lib.trimSuffix r [93]).toArray⟩ := ⟨_, rfl⟩
      rw [← hv] at HC2
      clear hr hu hud hlr hus hsf hv
      go_enter Tryz.func12, Tryz.ntmps12
      go_wp2_with fail
      refine HC1.out.mono ?_
      rintro e wz ⟨rfl, hw0⟩
      obtain rfl := hw0.symm
      clear hw0
      go_wp2_with fail
      refine HC2.out.mono ?_
      rintro e wz ⟨rfl, hw0⟩
      obtain rfl := hw0.symm
      clear hw0
      go_wp2_with fail
      go_ret2
      exact ⟨⟨none, 0, rfl, World.ownsRow_nil ..⟩, Below.refl _ _⟩
    · rw [hsf] at HC2
      obtain ⟨m, hmr⟩ : ∃ m, r = m ++ [93] := by
        obtain ⟨m, e⟩ := List.isSuffixOf_iff_suffix.1 hsf
        exact ⟨m, e.symm⟩
      have htr : Lib.trimSuffix r [93] = m := by
        unfold Lib.trimSuffix
        rw [hsf, if_pos rfl, hmr, List.length_append]
        simp
      rw [htr] at HC2
      obtain ⟨v, hv⟩ : ∃ v : ByteArray, v = ⟨m.toArray⟩ := ⟨_, rfl⟩
      rw [← hv] at HC2
      have hvd : v.data.toList = m := by subst hv; simp
      have hml : m.length ≤ 1048576 := by rw [hmr, List.length_append] at hlr; omega
      have hvs : v.size ≤ 1048576 := by have := len_size v; rw [hvd] at this; omega
      have HRp := Lib.hid (repl_any v w hvs HM.out)
      rw [hvd] at HRp
      obtain ⟨P, hP⟩ : ∃ P : ByteArray, P = ⟨(Lib.replace m [59, 32] [44, 32] 1).toArray⟩ := ⟨_, rfl⟩
      rw [← hP] at HRp
      have hPd : P.data.toList = Lib.replace m [59, 32] [44, 32] 1 := by subst hP; simp
      have hPl : P.size = m.length := by rw [← len_size, hPd, rep_len]
      have HSp := Lib.hid (fun W m => splitComma P W (by omega) m)
      rw [hPd] at HSp
      have hpl : ∀ p ∈ pcL m, p.length ≤ 1048576 := fun p hp => by
        have := splitK_le [44, 32] _ _ p hp
        rw [rep_len] at this; omega
      have hln : (pcL m).length ≤ 1048577 := by
        have := splitK_len [44, 32] (by simp) (Lib.count (Lib.replace m [59, 32] [44, 32] 1) [44, 32]) (Lib.replace m [59, 32] [44, 32] 1)
        rw [rep_len] at this
        show (Lib.splitK _ _ _ _).length ≤ _
        omega
      have hne : pcL m ≠ [] := splitK_ne _ _ _
      have hgd : ∀ zs, Gd s zs → AllI (fun _ => rdO) (pcL m) zs := fun zs hz => by
        have h1 := hz.data
        rw [hr] at h1
        have h2 : r = inL zs ++ [93] := (List.cons.inj h1).2
        rw [hmr] at h2
        rw [List.append_cancel_right h2]
        exact hz.pieces
      have HSp := Lib.hid (show ∀ W, Mx W → Calls Tryz.prog 50 #[.string P, .string ⟨#[44, 32]⟩] W fun e w' => ∃ ts : List ByteArray, e = .returned (.slice (some ⟨W.heap.size, 0, none⟩) ts.length ts.length) ∧ ts.map (fun t : ByteArray => t.data.toList) = pcL m ∧
        (∀ (k : Nat) t, ts[k]? = some t → w'.cell? ⟨W.heap.size, k, none⟩ = some (.string t)) ∧ Below W.heap.size W w' ∧ W.heap.size < w'.heap.size from HSp.out)
      have hse : s.data.toList ≠ [] := by rw [hr]; simp
      generalize pcL m = ls at *
      have HGd := Lib.hid hgd
      have HPl := Lib.hid hpl
      have HSe := Lib.hid hse
      have HNe := Lib.hid hne
      clear hr hu hud hlr hus hsf hmr htr hv hvd hml hvs hP hPd hPl hpl hgd hse hne
      go_enter Tryz.func12, Tryz.ntmps12
      go_wp2_with fail
      refine HC1.out.mono ?_
      rintro e wz ⟨rfl, hw0⟩
      obtain rfl := hw0.symm
      clear hw0
      go_wp2_with fail
      refine HC2.out.mono ?_
      rintro e wz ⟨rfl, hw0⟩
      obtain rfl := hw0.symm
      clear hw0
      go_wp2_with fail
      refine HRp.out.mono ?_
      rintro e w1 ⟨rfl, hb1⟩
      have HB1 := Lib.hid hb1
      clear hb1
      go_wp2_with fail
      refine (HSp.out w1 (HM.out.below HB1.out)).mono ?_
      rintro e w2 ⟨ts, rfl, hts, hcs, hb2, hg2⟩
      have hB2 := HB1.out.trans (hb2.mono HB1.out.size)
      have hn : ts.length = ls.length := by rw [← hts, List.length_map]
      have hrow : TRow w2 (some ⟨w1.heap.size, 0, none⟩) ts.length ts := ⟨rfl, by omega, fun k v hv => by
        rw [List.getElem?_map] at hv
        cases ht : ts[k]? with
        | none => rw [ht] at hv; cases hv
        | some t =>
          rw [ht] at hv
          injection hv with hv
          exact ⟨_, rfl, by rw [addr_zero, ← hv]; exact hcs k t ht⟩⟩
      have HRd := Lib.hid (readDecimals_any (some ⟨w1.heap.size, 0, none⟩) ts.length ts.length ts w2 hrow (fun t ht => by
        rw [← len_size]
        exact HPl.out _ (by rw [← hts]; exact List.mem_map.2 ⟨t, ht, rfl⟩)) (by
          rcases Nat.eq_zero_or_pos ts.length with h | h
          · exact absurd (List.eq_nil_of_length_eq_zero (hn.symm.trans h)) HNe.out
          · exact h) (by omega) (HD.out.below hB2) (HE.out.below hB2))
      rw [hts] at HRd
      have HB2 := Lib.hid hB2
      clear hts hcs hb2 hB2 hrow hn hg2
      go_wp2_with fail
      refine HRd.out.mono ?_
      rintro e w3 ⟨⟨us, ok, ⟨A, c, rfl, hown⟩, hok, hno⟩, hb3⟩
      have HO := Lib.hid hown
      have HB3 := Lib.hid (HB2.out.trans (hb3.mono HB2.out.size))
      clear hown hb3
      cases ok
      · obtain ⟨rfl, hn⟩ := hno rfl
        obtain ⟨rfl, rfl⟩ := HR.out.no (fun zs hz => hn zs (HGd.out zs hz))
        clear hok hno hn
        go_wp2_with fail
        go_ret2
        exact ⟨⟨none, 0, rfl, World.ownsRow_nil ..⟩, HB3.out⟩
      · have hA := hok rfl
        have huq : ∀ zs, Gd s zs → zs = us := fun zs hz => (HGd.out zs hz).uniq hA
        have hl : us.length ≤ 1048577 := by rw [hA.1]; exact hln
        have HTx := Lib.hid (implTtx_any A us.length c us w3 (IRow.of_own HO.out (by omega) (hA.rng (fun _ => rdO_rng))) (own_cap HO.out) (HD.out.below HB3.out))
        obtain ⟨T, hT⟩ : ∃ T : ByteArray, T = txS us := ⟨_, rfl⟩
        rw [← hT] at HTx
        by_cases hq : T = s
        · obtain ⟨rfl, rfl⟩ := HR.out.yes (zs := us) (by
            have hv : trmB us = true := by
              cases hv : trmB us
              · exfalso
                rw [hq, show txS us = ⟨#[]⟩ from if_neg (by rw [hv]; decide)] at hT
                exact HSe.out (by rw [hT])
              · rfl
            refine ⟨hv, ?_⟩
            rw [← hq, hT, show txS us = ⟨(txL us).toArray⟩ from if_pos hv, data_mk])
          have htl := tl_t hq
          clear hok hno hA huq hT hq
          go_wp2_with fail
          refine HTx.out.mono ?_
          rintro e w4 ⟨rfl, hb4⟩
          have HO4 := Lib.hid (own_below HO.out hb4)
          have HB4 := Lib.hid (HB3.out.trans (hb4.mono HB3.out.size))
          clear hb4
          go_wp2_with fail
          go_ret2
          exact ⟨⟨A, c, rfl, own_base HO4.out HB2.out.size⟩, HB4.out⟩
        · obtain ⟨rfl, rfl⟩ := HR.out.no (fun zs hz => hq (by
            rw [huq zs hz] at hz
            rw [hT, show txS us = ⟨(txL us).toArray⟩ from if_pos hz.1]
            exact str_ext (by rw [data_mk, hz.2])))
          have htl := tl_f hq
          clear hok hno hA huq hT hq
          go_wp2_with fail
          refine HTx.out.mono ?_
          rintro e w4 ⟨rfl, hb4⟩
          have HB4 := Lib.hid (HB3.out.trans (hb4.mono HB3.out.size))
          clear hb4
          go_wp2_with fail
          go_ret2
          exact ⟨⟨none, 0, rfl, World.ownsRow_nil ..⟩, HB4.out⟩
  · obtain ⟨rfl, rfl⟩ := HR.out.no (fun zs hz => h91 ⟨_, hz.data⟩)
    have HC1 := Lib.hid (cutP_miss s 91 h91 w)
    have HC2 := Lib.hid (cutS_any s w hs)
    obtain ⟨v, q, hvq⟩ : ∃ (v : ByteArray) (q : Bool), v = ⟨(Lib.trimSuffix s.data.toList [93]).toArray⟩ ∧ q = Lib.hasSuffix s.data.toList [93] := ⟨_, _, rfl, rfl⟩
    rw [← hvq.1, ← hvq.2] at HC2
    clear hvq h91
    go_enter Tryz.func12, Tryz.ntmps12
    go_wp2_with fail
    refine HC1.out.mono ?_
    rintro e wz ⟨rfl, hw0⟩
    obtain rfl := hw0.symm
    clear hw0
    go_wp2_with fail
    refine HC2.out.mono ?_
    rintro e wz ⟨rfl, hw0⟩
    obtain rfl := hw0.symm
    clear hw0
    go_wp2_with fail
    go_ret2
    exact ⟨⟨none, 0, rfl, World.ownsRow_nil ..⟩, Below.refl _ _⟩
end Go.Proofs.YtlpglibnjmjjkaaGreatDoor
namespace Go.Proofs.YtlpglibnjmjjkaaGreatDoor
open Go.RowKit
set_option linter.unusedVariables false

theorem expN_ne {a : Int} {b : Nat} (h : 0 < b) : expN a b ≠ [] := by rw [expN_pos h]; simp
/-- The last term of a quotient above 1 is 2 at least. -/
theorem expN_last (b : Nat) : ∀ a : Int, 0 < b → (b : Int) < a → ∀ z, (expN a b).getLast? = some z → 2 ≤ z := by
  induction b using Nat.strongRecOn with
  | ind b ih =>
    intro a h0 h1 z hz
    have hm := mod_bd a h0
    rw [expN_pos h0] at hz
    rcases Nat.eq_zero_or_pos (a % (b : Int)).toNat with he | he
    · rw [he, expN_zero] at hz
      simp at hz
      have hq := quo_mul a h0
      have h2 : (a / (b : Int)) * b = a := by omega
      rw [← hz]
      rcases Int.lt_or_le (a / (b : Int)) 2 with hl | hl
      · exfalso
        have : (a / (b : Int)) * b ≤ 1 * b := Int.mul_le_mul_of_nonneg_right (by omega) (by omega)
        omega
      · exact hl
    · rw [List.getLast?_cons_of_ne_nil (expN_ne he)] at hz
      exact ih _ (by omega) b he (by omega) z hz
/-- If the last term is 1, it is the only one. -/
theorem expN_one {p : Int} {d m : Nat} (hd : 0 < d) (hl : (expN p d).length = m + 1) (h : (expN p d)[m]? = some 1) : m = 0 := by
  have hm := mod_bd p hd
  rcases Nat.eq_zero_or_pos (p % (d : Int)).toNat with he | he
  · rw [expN_pos hd, he, expN_zero] at hl
    simp at hl; omega
  · exfalso
    have hlast : (expN p d).getLast? = some 1 := by rw [List.getLast?_eq_getElem?, hl]; exact h
    rw [expN_pos hd, List.getLast?_cons_of_ne_nil (expN_ne he)] at hlast
    have := expN_last _ d he (by omega) 1 hlast
    omega

/-- The last term less by one. -/
def decL : List Int → List Int
  | [] => []
  | [z] => [z - 1]
  | z :: y :: r => z :: decL (y :: r)
theorem decL_cons {z : Int} {l : List Int} (h : l ≠ []) : decL (z :: l) = z :: decL l := by
  match l, h with
  | y :: r, _ => rfl
theorem decL_set : ∀ (l : List Int) (m : Nat) (z : Int), l.length = m + 1 → l[m]? = some z → decL l = l.set m (z - 1)
  | [y], 0, z, _, h => by simp at h; subst h; rfl
  | y :: x :: r, 0, z, hl, _ => by simp at hl
  | y :: x :: r, m + 1, z, hl, h => by
    rw [decL_cons (by simp), decL_set (x :: r) m z (by simpa using hl) (by simpa using h)]; rfl
  | [y], m + 1, z, hl, _ => by simp at hl
  | [], m, z, hl, _ => by simp at hl
theorem decL_len : ∀ l : List Int, (decL l).length = l.length
  | [] => rfl
  | [z] => rfl
  | z :: y :: r => by rw [decL_cons (by simp), List.length_cons, decL_len (y :: r)]; simp

/-- The runs of the path to a positive fraction. -/
def pthL (p : Int) (d : Nat) : List Int := if decL (expN p d) = [0] then [] else decL (expN p d)

/-- The bounds behind a state, the runs from place k on. -/
def bndF : List Int → Nat → Int × Int × Int × Int → Int × Int × Int × Int
  | [], _, s => s
  | n :: l, k, (p, q, r, t) => bndF l (k + 1) (if k % 2 = 0 then (p + n * r, q + n * t, r, t) else (p, q, r + n * p, t + n * q))
def BndIn (s : Int × Int × Int × Int) : Prop := (0 ≤ s.1 ∧ s.1 ≤ 1000000000) ∧ (0 ≤ s.2.1 ∧ s.2.1 ≤ 1000000000) ∧ (0 ≤ s.2.2.1 ∧ s.2.2.1 ≤ 1000000000) ∧ (0 ≤ s.2.2.2 ∧ s.2.2.2 ≤ 1000000000)
def BndOk : List Int → Nat → Int × Int × Int × Int → Prop
  | [], _, s => BndIn s
  | n :: l, k, (p, q, r, t) => BndIn (p, q, r, t) ∧ (-1000000000 ≤ n ∧ n ≤ 1000000000) ∧ BndOk l (k + 1) (if k % 2 = 0 then (p + n * r, q + n * t, r, t) else (p, q, r + n * p, t + n * q))
theorem BndOk.head : ∀ {l : List Int} {k : Nat} {s : Int × Int × Int × Int}, BndOk l k s → BndIn s
  | [], _, _, h => h
  | _ :: _, _, _, h => h.1

theorem le_sum {P r p x y : Int} (h : P = r * x + p * y) (h1 : 0 ≤ r) (h2 : 0 ≤ p) (h3 : 1 ≤ x) (h4 : 1 ≤ y) : r ≤ P ∧ p ≤ P := by
  have a := Int.mul_le_mul_of_nonneg_left h3 h1
  have b := Int.mul_le_mul_of_nonneg_left h4 h2
  have c := Int.mul_nonneg h1 (show 0 ≤ x by omega)
  have d := Int.mul_nonneg h2 (show 0 ≤ y by omega)
  omega
theorem sum_step {P r p x y a e : Int} (h : P = r * x + p * y) (hx : x = y * a + e) : P = (p + a * r) * y + r * e := by grind
theorem det_step (p q r t a : Int) : (r * (q + a * t) - (p + a * r) * t = r * q - p * t) ∧ ((r + a * p) * q - p * (t + a * q) = r * q - p * t) := by constructor <;> grind

set_option maxHeartbeats 1600000 in
theorem bnd_main (y : Nat) : ∀ (x : Int) (k : Nat) (p q r t P Q : Int), 0 < y → 1 ≤ x → x ≤ 1000000000 → y ≤ 1000000000 → Int.gcd x y = 1 → 0 ≤ p → 0 ≤ q → 0 ≤ r → 0 ≤ t → P ≤ 1000000000 → Q ≤ 1000000000 →
    (k % 2 = 0 → P = r * x + p * y ∧ Q = t * x + q * y) → (k % 2 = 1 → P = p * x + r * y ∧ Q = q * x + t * y) → r * q - p * t = 1 →
    BndOk (decL (expN x y)) k (p, q, r, t) ∧ (bndF (decL (expN x y)) k (p, q, r, t)).1 + (bndF (decL (expN x y)) k (p, q, r, t)).2.2.1 = P ∧ (bndF (decL (expN x y)) k (p, q, r, t)).2.1 + (bndF (decL (expN x y)) k (p, q, r, t)).2.2.2 = Q ∧
      (bndF (decL (expN x y)) k (p, q, r, t)).2.2.1 * (bndF (decL (expN x y)) k (p, q, r, t)).2.1 - (bndF (decL (expN x y)) k (p, q, r, t)).1 * (bndF (decL (expN x y)) k (p, q, r, t)).2.2.2 = 1 := by
  induction y using Nat.strongRecOn with
  | ind y ih =>
    intro x k p q r t P Q hy hx hx2 hy2 hg p0 q0 r0 t0 P1 Q1 hE hO hdet
    have hm := mod_bd x hy
    have hq := quo_mul x hy
    have hqb := quo_bd x hy (by omega) hx2
    have ha0 : 0 ≤ x / (y : Int) := Int.ediv_nonneg (by omega) (by omega)
    have hin : BndIn (p, q, r, t) := by
      rcases Nat.mod_two_eq_zero_or_one k with hk | hk
      · obtain ⟨e1, e2⟩ := hE hk
        have := le_sum e1 r0 p0 hx (by omega)
        have := le_sum e2 t0 q0 hx (by omega)
        unfold BndIn; simp only; omega
      · obtain ⟨e1, e2⟩ := hO hk
        have := le_sum e1 p0 r0 hx (by omega)
        have := le_sum e2 q0 t0 hx (by omega)
        unfold BndIn; simp only; omega
    obtain ⟨a, ha⟩ : ∃ a, a = x / (y : Int) := ⟨_, rfl⟩
    rw [expN_pos hy, ← ha]
    rw [← ha] at hq hqb ha0
    rcases Nat.eq_zero_or_pos (x % (y : Int)).toNat with he | he
    · have he' : x % (y : Int) = 0 := by omega
      have hy1 : y = 1 := by
        have hd : (y : Int) ∣ x := Int.dvd_of_emod_eq_zero he'
        have : Int.gcd x y = y := by rw [Int.gcd_comm, Int.gcd_eq_natAbs_left hd]; rfl
        omega
      subst hy1
      have hxa : x = a := by simp at hq; omega
      rw [he, expN_zero]
      show BndOk [a - 1] k (p, q, r, t) ∧ _
      rcases Nat.mod_two_eq_zero_or_one k with hk | hk
      · obtain ⟨e1, e2⟩ := hE hk
        have f1 : p + (a - 1) * r = P - r := by rw [e1, hxa, Int.sub_mul, Int.mul_comm r a]; omega
        have f2 : q + (a - 1) * t = Q - t := by rw [e2, hxa, Int.sub_mul, Int.mul_comm t a]; omega
        have g1 := le_sum e1 r0 p0 hx (by omega)
        have g2 := le_sum e2 t0 q0 hx (by omega)
        have hd := (det_step p q r t (a - 1)).1
        simp only [BndOk, bndF, decL, if_pos hk]
        rw [f1, f2] at hd ⊢
        refine ⟨⟨hin, by omega, ?_⟩, by omega, by omega, by omega⟩
        unfold BndIn; simp only; omega
      · obtain ⟨e1, e2⟩ := hO hk
        have hk' : ¬ k % 2 = 0 := by omega
        have f1 : r + (a - 1) * p = P - p := by rw [e1, hxa, Int.sub_mul, Int.mul_comm p a]; omega
        have f2 : t + (a - 1) * q = Q - q := by rw [e2, hxa, Int.sub_mul, Int.mul_comm q a]; omega
        have g1 := le_sum e1 p0 r0 hx (by omega)
        have g2 := le_sum e2 q0 t0 hx (by omega)
        have hd := (det_step p q r t (a - 1)).2
        simp only [BndOk, bndF, decL, if_neg hk']
        rw [f1, f2] at hd ⊢
        refine ⟨⟨hin, by omega, ?_⟩, by omega, by omega, by omega⟩
        unfold BndIn; simp only; omega
    · rw [decL_cons (expN_ne he)]
      have hxe : x = (y : Int) * a + x % (y : Int) := by rw [Int.mul_comm]; omega
      have hcast : (((x % (y : Int)).toNat : Nat) : Int) = x % (y : Int) := Int.toNat_of_nonneg hm.1
      have hgg : Int.gcd (y : Int) ((x % (y : Int)).toNat : Nat) = 1 := by
        rw [hcast, ← hg, Int.gcd_comm x, Int.emod_def, Int.gcd_sub_mul_left_right]
      rcases Nat.mod_two_eq_zero_or_one k with hk | hk
      · obtain ⟨e1, e2⟩ := hE hk
        have s1 := sum_step e1 hxe
        have s2 := sum_step e2 hxe
        have hd := (det_step p q r t a).1
        have h1 := Int.mul_nonneg ha0 r0
        have h2 := Int.mul_nonneg ha0 t0
        have hi := ih _ (by omega) (y : Int) (k + 1) (p + a * r) (q + a * t) r t P Q he (by omega) (by omega) (by omega) hgg (by omega) (by omega) r0 t0 P1 Q1 (fun h => by omega) (fun _ => ⟨by rw [hcast]; exact s1, by rw [hcast]; exact s2⟩) (by omega)
        simp only [BndOk, bndF, if_pos hk]
        exact ⟨⟨hin, by omega, hi.1⟩, hi.2⟩
      · have hk' : ¬ k % 2 = 0 := by omega
        obtain ⟨e1, e2⟩ := hO hk
        have s1 := sum_step e1 hxe
        have s2 := sum_step e2 hxe
        have hd := (det_step p q r t a).2
        have h1 := Int.mul_nonneg ha0 p0
        have h2 := Int.mul_nonneg ha0 q0
        have hi := ih _ (by omega) (y : Int) (k + 1) p q (r + a * p) (t + a * q) P Q he (by omega) (by omega) (by omega) hgg p0 q0 (by omega) (by omega) P1 Q1 (fun _ => ⟨by rw [hcast]; exact s1, by rw [hcast]; exact s2⟩) (fun h => by omega) (by omega)
        simp only [BndOk, bndF, if_neg hk']
        exact ⟨⟨hin, by omega, hi.1⟩, hi.2⟩

theorem decL_rng : ∀ (l : List Int), (∀ z ∈ l, -1000000000 ≤ z ∧ z ≤ 1000000000) → ∀ z ∈ decL l, -1000000001 ≤ z ∧ z ≤ 1000000000
  | [], _, z, hz => by cases hz
  | [y], h, z, hz => by
    simp only [decL, List.mem_singleton] at hz
    have := h y (by simp); omega
  | y :: x :: r, h, z, hz => by
    rw [decL_cons (by simp), List.mem_cons] at hz
    rcases hz with rfl | hz
    · have := h z (by simp); omega
    · exact decL_rng (x :: r) (fun z hz => h z (List.mem_cons_of_mem _ hz)) z hz
theorem pthL_rng {p : Int} {d : Nat} (h1 : -1000000000 ≤ p) (h2 : p ≤ 1000000000) (h3 : d ≤ 1000000000) : ∀ z ∈ pthL p d, -1000000001 ≤ z ∧ z ≤ 1000000000 := by
  intro z hz
  unfold pthL at hz
  split at hz
  · cases hz
  · exact decL_rng _ (expN_rng d p h1 h2 h3) z hz
theorem pthL_len (p : Int) (d : Nat) : (pthL p d).length ≤ d := by
  unfold pthL
  split
  · exact Nat.zero_le _
  · rw [decL_len]; exact expN_len d p
/-- The last term is 1: the path is empty. -/
theorem pthL_one {p : Int} {d m : Nat} (hd : 0 < d) (hl : (expN p d).length = m + 1) (h : (expN p d)[m]? = some 1) : m = 0 ∧ pthL p d = [] := by
  have hm := expN_one hd hl h
  subst hm
  refine ⟨rfl, ?_⟩
  unfold pthL
  rw [if_pos]
  match hq : expN p d, hl, h with
  | [y], _, h => simp at h; subst h; rfl
theorem pthL_set {p : Int} {d m : Nat} {z : Int} (hl : (expN p d).length = m + 1) (h : (expN p d)[m]? = some z) (hz : z ≠ 1) : pthL p d = (expN p d).set m (z - 1) := by
  have e := decL_set _ m z hl h
  unfold pthL
  rw [e, if_neg]
  intro h0
  have h1 : m = 0 := by have := congrArg List.length h0; rw [List.length_set, hl] at this; simp at this; omega
  subst h1
  have := congrArg (fun l => l[0]?) h0
  simp only [List.getElem?_set_self (show 0 < (expN p d).length by omega)] at this
  simp at this
  omega

/-- The bounds of a plain positive fraction. -/
def bndP (p : Int) (d : Nat) : Int × Int × Int × Int := bndF (pthL p d) 0 (0, 1, 1, 0)
theorem bnd_path {p : Int} {d : Nat} (hv : vfB p d = true) (hp : 0 < p) :
    BndOk (pthL p d) 0 (0, 1, 1, 0) ∧ (bndP p d).1 + (bndP p d).2.2.1 = p ∧ (bndP p d).2.1 + (bndP p d).2.2.2 = d ∧ (bndP p d).2.2.1 * (bndP p d).2.1 - (bndP p d).1 * (bndP p d).2.2.2 = 1 := by
  obtain ⟨v1, v2, v3, v4, v5⟩ := vfB_iff.1 hv
  have h := bnd_main d p 0 0 1 1 0 p d (by omega) (by omega) v4 (by omega) v5 (by omega) (by omega) (by omega) (by omega) v4 v2 (fun _ => ⟨by omega, by omega⟩) (fun h => by omega) (by omega)
  unfold bndP pthL
  split
  · rename_i h0
    rw [h0] at h
    refine ⟨?_, ?_⟩
    · show BndIn _
      unfold BndIn; simp
    · simpa [bndF] using h.2
  · exact h
theorem BndOk.last : ∀ {l : List Int} {k : Nat} {s : Int × Int × Int × Int}, BndOk l k s → BndIn (bndF l k s)
  | [], _, _, h => h
  | n :: l, k, (p, q, r, t), h => by rw [bndF]; exact h.2.2.last
end Go.Proofs.YtlpglibnjmjjkaaGreatDoor
namespace Go.Proofs.YtlpglibnjmjjkaaGreatDoor
open Go.RowKit
set_option linter.unusedVariables false

section
variable {B W w1 : World} {a b c d : Addr} {x y z u : Value}
theorem ext_of (h : B.cell? a = some x ∧ B.cell? b = some y ∧ B.cell? c = some z ∧ B.cell? d = some u) (hb : Below B.heap.size B W) :
    W.cell? a = some x ∧ W.cell? b = some y ∧ W.cell? c = some z ∧ W.cell? d = some u ∧ Below B.heap.size B W :=
  ⟨(hb.cell (World.block_lt_of_cell? B a h.1)).trans h.1, (hb.cell (World.block_lt_of_cell? B b h.2.1)).trans h.2.1, (hb.cell (World.block_lt_of_cell? B c h.2.2.1)).trans h.2.2.1, (hb.cell (World.block_lt_of_cell? B d h.2.2.2)).trans h.2.2.2, hb⟩
theorem ext_b (h : W.cell? a = some x ∧ W.cell? b = some y ∧ W.cell? c = some z ∧ W.cell? d = some u ∧ Below B.heap.size B W) : Below B.heap.size B W := h.2.2.2.2
theorem ext_call (h : Below B.heap.size B W) (hb : Below W.heap.size W w1) : Below B.heap.size B w1 := h.trans (hb.mono h.size)
theorem ext_first (hb : Below B.drew.heap.size B.drew w1) : Below B.heap.size B w1 := (Below.refl _ _).drew.trans hb
theorem ext_swap {o : Obj} (h : Below B.heap.size B (W.alloc o)) (hs : B.heap.size ≤ W.heap.size) (o' : Obj) : Below B.heap.size B (W.alloc o') :=
  ⟨h.os, h.tape, h.output, by simp; omega, fun i hi => by
    rw [Below.heap_alloc W o' i (by omega), ← Below.heap_alloc W o i (by omega)]
    exact h.block i hi⟩
theorem ext_set2 (h : Below B.heap.size B W) {g : Nat} (hg : B.heap.size ≤ g) (s t : Value) : Below B.heap.size B ((W.setCell ⟨g, 0, none⟩ s).setCell ⟨g, 1, none⟩ t) :=
  (h.setCell (p := ⟨g, 0, none⟩) hg _).setCell (p := ⟨g, 1, none⟩) hg _
theorem ext_le (h : Below B.heap.size B W) : B.heap.size ≤ W.heap.size := h.size
end
theorem keepr {W w1 : World} (h : Below W.heap.size W w1) : ∀ k, k < W.heap.size → k < w1.heap.size := fun k hk => Nat.lt_of_lt_of_le hk h.size
end Go.Proofs.YtlpglibnjmjjkaaGreatDoor
namespace Go.Proofs.YtlpglibnjmjjkaaGreatDoor
open Go.RowKit
set_option linter.unusedVariables false
attribute [local go_sem ↓] Go.wp_at_zero Go.wp_at_succ



/-- How two fractions compare, and a code. -/
def cmpR (p q r s : Int) : Int × Int := if vfB p q = true ∧ vfB r s = true then (cmpI (p * s) (r * q), 0) else (0, 1)
end Go.Proofs.YtlpglibnjmjjkaaGreatDoor
namespace Go.Proofs.YtlpglibnjmjjkaaGreatDoor
open Go.RowKit
set_option linter.unusedVariables false
set_option linter.unusedSimpArgs false
attribute [local go_sem ↓] Go.wp_at_zero Go.wp_at_succ

/-- The order of the values of terms; s is 1 at even places and -1 at odd ones. -/
def cmpT : Int → List Int → List Int → Int
  | _, [], [] => 0
  | s, [], _ :: _ => s
  | s, _ :: _, [] => -s
  | s, x :: a, y :: b => if x < y then -s else if y < x then s else cmpT (-s) a b
def sgP (k : Nat) : Int := if k % 2 = 1 then -1 else 1
theorem sgP_succ (k : Nat) : sgP (k + 1) = - sgP k := by unfold sgP; split <;> split <;> omega
/-- All places ahead of k are equal: the rest decides. -/
def CmpAt (zs ys : List Int) (k : Nat) : Prop := cmpT (sgP k) (zs.drop k) (ys.drop k) = cmpT 1 zs ys
theorem CmpAt.start (zs ys : List Int) : CmpAt zs ys 0 := rfl
theorem CmpAt.done {zs ys : List Int} {k : Nat} (h : CmpAt zs ys k) (h1 : zs.length ≤ k) (h2 : ys.length ≤ k) : cmpT 1 zs ys = 0 := by
  unfold CmpAt at h; rw [← h, List.drop_of_length_le h1, List.drop_of_length_le h2]; rfl
theorem CmpAt.left {zs ys : List Int} {k : Nat} {y : Int} (h : CmpAt zs ys k) (h1 : zs.length ≤ k) (h2 : ys[k]? = some y) : cmpT 1 zs ys = sgP k := by
  unfold CmpAt at h; rw [← h, List.drop_of_length_le h1, drop_at h2]; rfl
theorem CmpAt.right {zs ys : List Int} {k : Nat} {x : Int} (h : CmpAt zs ys k) (h1 : zs[k]? = some x) (h2 : ys.length ≤ k) : cmpT 1 zs ys = - sgP k := by
  unfold CmpAt at h; rw [← h, List.drop_of_length_le h2, drop_at h1]; rfl
theorem CmpAt.less {zs ys : List Int} {k : Nat} {x y : Int} (h : CmpAt zs ys k) (h1 : zs[k]? = some x) (h2 : ys[k]? = some y) (hl : x < y) : cmpT 1 zs ys = - sgP k := by
  unfold CmpAt at h; rw [← h, drop_at h1, drop_at h2, cmpT, if_pos hl]
theorem CmpAt.more {zs ys : List Int} {k : Nat} {x y : Int} (h : CmpAt zs ys k) (h1 : zs[k]? = some x) (h2 : ys[k]? = some y) (hl : y < x) : cmpT 1 zs ys = sgP k := by
  unfold CmpAt at h; rw [← h, drop_at h1, drop_at h2, cmpT, if_neg (by omega), if_pos hl]
theorem CmpAt.same {zs ys : List Int} {k : Nat} {x : Int} (h : CmpAt zs ys k) (h1 : zs[k]? = some x) (h2 : ys[k]? = some x) : CmpAt zs ys (k + 1) := by
  unfold CmpAt at h ⊢; rw [← h, drop_at h1, drop_at h2, cmpT, if_neg (by omega), if_neg (by omega), sgP_succ]

/-- The order of two lists of terms, and a code. -/
def cpT (zs ys : List Int) : Int := if trmB zs = true ∧ trmB ys = true then cmpT 1 (shL zs) (shL ys) else 0
def cpC (zs ys : List Int) : Int := if trmB zs = true ∧ trmB ys = true then 0 else 1
end Go.Proofs.YtlpglibnjmjjkaaGreatDoor
namespace Go.Proofs.YtlpglibnjmjjkaaGreatDoor
open Go.RowKit
set_option linter.unusedVariables false
attribute [local go_sem ↓] Go.wp_at_zero Go.wp_at_succ


/-- The code of fractions that must be positive. -/
def vfE (_ : Nat) (z : Int × Int) : Bool := vfB z.1 z.2
def ppE (_ : Nat) (z : Int × Int) : Bool := decide (0 < z.1)
def posL (zs : List (Int × Int)) : Int := if allK vfE 0 zs = true then (if allK ppE 0 zs = true then 0 else 2) else 1
def posC (p q : Int) : Int := if vfB p q = true then (if 0 < p then 0 else 2) else 1
theorem posL_one (p q : Int) : posL [(p, q)] = posC p q := by
  unfold posL posC
  simp [allK, vfE, ppE]
theorem prow_one {w : World} {b : Nat} {p q : Int} (c0 : w.cell? ⟨b, 0, none⟩ = some (.int .i64 p)) (c1 : w.cell? ⟨b, 1, none⟩ = some (.int .i64 q)) (hp : Rng p) (hq : Rng q) : PRow w (some ⟨b, 0, none⟩) 1 [(p, q)] := by
  refine ⟨rfl, by omega, ?_, ?_⟩
  · intro z hz; rw [List.mem_singleton] at hz; subst hz; exact ⟨hp, hq⟩
  · rintro (_ | _ | j) u hu
    · simp [prs] at hu; subst hu; exact ⟨_, rfl, by simpa [addr_zero] using c0⟩
    · simp [prs] at hu; subst hu; exact ⟨_, rfl, by simpa [addr_zero] using c1⟩
    · simp [prs] at hu

end Go.Proofs.YtlpglibnjmjjkaaGreatDoor
namespace Go.Proofs.YtlpglibnjmjjkaaGreatDoor
open Go.RowKit
set_option linter.unusedVariables false
set_option linter.unusedSimpArgs false
attribute [local go_sem ↓] Go.wp_at_zero Go.wp_at_succ

/-- Short terms are few. -/
theorem expN_log (k : Nat) : ∀ (a : Int) (b : Nat), b < 2 ^ k → (expN a b).length ≤ 2 * k := by
  induction k with
  | zero => intro a b h; rw [show b = 0 by simp at h; exact h, expN_zero]; simp
  | succ k ih =>
    intro a b h
    rw [Nat.pow_succ] at h
    rcases Nat.eq_zero_or_pos b with rfl | hb
    · rw [expN_zero]; simp
    · rw [expN_pos hb]
      have hm := mod_bd a hb
      rcases Nat.eq_zero_or_pos (a % (b : Int)).toNat with he | he
      · rw [he, expN_zero]; simp; omega
      · have hlt : (a % (b : Int)).toNat < b := by omega
        generalize (a % (b : Int)).toNat = m at *
        rw [expN_pos he]
        have hm2 := mod_bd (b : Int) he
        have hq := quo_mul (b : Int) he
        have hq1 : 1 ≤ (b : Int) / (m : Int) := by
          rcases Int.lt_or_le ((b : Int) / (m : Int)) 1 with hl | hl
          · exfalso
            have : (b : Int) / (m : Int) * m ≤ 0 * m := Int.mul_le_mul_of_nonneg_right (by omega) (by omega)
            omega
          · exact hl
        have hq2 : 1 * (m : Int) ≤ (b : Int) / (m : Int) * m := Int.mul_le_mul_of_nonneg_right hq1 (by omega)
        have := ih m ((b : Int) % (m : Int)).toNat (by omega)
        simp only [List.length_cons]
        omega
theorem expN_ge (b : Nat) : ∀ a : Int, 0 < b → ∀ (k : Nat) z, (expN a b)[k + 1]? = some z → 1 ≤ z := by
  induction b using Nat.strongRecOn with
  | ind b ih =>
    intro a h0 k z hz
    have hm := mod_bd a h0
    rw [expN_pos h0, List.getElem?_cons_succ] at hz
    rcases Nat.eq_zero_or_pos (a % (b : Int)).toNat with he | he
    · rw [he, expN_zero] at hz; cases hz
    · cases k with
      | succ k => exact ih _ (by omega) b he k z hz
      | zero =>
        rw [expN_pos he] at hz
        simp only [List.getElem?_cons_zero, Option.some.injEq] at hz
        subst hz
        have hq := quo_mul (b : Int) he
        have hm2 := mod_bd (b : Int) he
        rcases Int.lt_or_le ((b : Int) / ((a % (b : Int)).toNat : Int)) 1 with hl | hl
        · exfalso
          have : (b : Int) / ((a % (b : Int)).toNat : Int) * ((a % (b : Int)).toNat : Int) ≤ 0 * ((a % (b : Int)).toNat : Int) := Int.mul_le_mul_of_nonneg_right (by omega) (by omega)
          omega
        · exact hl

/-- Runs: few, none negative, only the first may be 0. -/
def PthOk (l : List Int) : Prop := l.length ≤ 60 ∧ (∀ z ∈ l, 0 ≤ z ∧ z ≤ 1000000000) ∧ ∀ (k : Nat) z, l[k + 1]? = some z → 1 ≤ z
theorem PthOk.nil : PthOk [] := ⟨by simp, fun z hz => by (cases hz), fun k z h => by cases h⟩
theorem pth_ok {p : Int} {d : Nat} (h1 : 1 ≤ p) (h2 : p ≤ 1000000000) (h3 : d ≤ 1000000000) (h4 : 0 < d) : PthOk (pthL p d) := by
  obtain ⟨m, hm⟩ : ∃ m, (expN p d).length = m + 1 := ⟨(expN p d).length - 1, by have := List.length_pos_iff.2 (expN_ne (a := p) h4); omega⟩
  obtain ⟨z, hz⟩ : ∃ z, (expN p d)[m]? = some z := ⟨_, List.getElem?_eq_getElem (by omega)⟩
  have hb := expN_rng d p (by omega) h2 h3
  have hl := expN_log 30 p d (by omega)
  have hmd := mod_bd p h4
  by_cases h1z : z = 1
  · subst h1z
    rw [(pthL_one h4 hm hz).2]
    exact PthOk.nil
  · have hhead : ∀ y, (expN p d)[0]? = some y → 0 ≤ y := by
      intro y hy
      rw [expN_pos h4] at hy
      simp at hy
      rw [← hy]
      exact Int.ediv_nonneg (by omega) (by omega)
    have hz1 : 1 ≤ z ∧ (1 ≤ m → 2 ≤ z) := by
      rw [expN_pos h4] at hm hz
      rcases Nat.eq_zero_or_pos (p % (d : Int)).toNat with he | he
      · rw [he, expN_zero] at hm hz
        simp at hm
        subst hm
        simp at hz
        have hq := quo_mul p h4
        refine ⟨?_, fun h => absurd h (by omega)⟩
        rw [← hz]
        rcases Int.lt_or_le (p / (d : Int)) 1 with hl | hl
        · exfalso
          have : p / (d : Int) * d ≤ 0 * d := Int.mul_le_mul_of_nonneg_right (by omega) (by omega)
          omega
        · exact hl
      · have hlast : (expN p d).getLast? = some z := by rw [List.getLast?_eq_getElem?, expN_pos h4, hm]; exact hz
        rw [expN_pos h4, List.getLast?_cons_of_ne_nil (expN_ne he)] at hlast
        have := expN_last _ d he (by omega) z hlast
        exact ⟨by omega, fun _ => this⟩
    have hge := expN_ge d p h4
    rw [pthL_set hm hz h1z]
    have hbz := hb z (List.mem_of_getElem? hz)
    refine ⟨by rw [List.length_set]; omega, fun y hy => ?_, fun k y hy => ?_⟩
    · rcases List.mem_or_eq_of_mem_set hy with h | h
      · obtain ⟨k, hk⟩ := List.mem_iff_getElem?.1 h
        have := hb y h
        cases k with
        | zero => have := hhead y hk; omega
        | succ k => have := hge k y hk; omega
      · subst h; omega
    · rw [List.getElem?_set] at hy
      split at hy
      · split at hy
        · injection hy with hy; have := hz1.2 (by omega); omega
        · cases hy
      · exact hge k y hy

/-- The common beginning of two paths. -/
def comR : List Int → List Int → List Int
  | x :: a, y :: b => if x = y then x :: comR a b else [min x y]
  | _, _ => []
theorem comR_nil (b : List Int) : comR [] b = [] := by cases b <;> rfl
theorem comR_nil' (a : List Int) : comR a [] = [] := by cases a <;> rfl
theorem comR_from : ∀ (a b : List Int) (k : Nat) z, (comR a b)[k]? = some z → a[k]? = some z ∨ b[k]? = some z
  | [], b, k, z, h => by rw [comR_nil] at h; cases h
  | x :: a, [], k, z, h => by rw [comR_nil'] at h; cases h
  | x :: a, y :: b, k, z, h => by
    rw [comR] at h
    split at h
    · cases k with
      | zero => exact .inl h
      | succ k => exact comR_from a b k z h
    · cases k with
      | zero =>
        simp at h
        rcases (by omega : z = x ∨ z = y) with e | e
        · left; rw [e]; rfl
        · right; rw [e]; rfl
      | succ k => cases h
theorem comR_ok {a b : List Int} (ha : PthOk a) (hb : PthOk b) : PthOk (comR a b) := by
  refine ⟨?_, fun z hz => ?_, fun k z hz => ?_⟩
  · have hh := comR_from a b
    rcases Nat.lt_or_ge 60 (comR a b).length with hl | hl
    · exfalso
      have h1 := ha.1
      have h2 := hb.1
      rcases hh 60 _ (List.getElem?_eq_getElem hl) with h | h
      · rw [List.getElem?_eq_none h1] at h; cases h
      · rw [List.getElem?_eq_none h2] at h; cases h
    · exact hl
  · obtain ⟨k, hk⟩ := List.mem_iff_getElem?.1 hz
    rcases comR_from a b k z hk with h | h
    · exact ha.2.1 z (List.mem_of_getElem? h)
    · exact hb.2.1 z (List.mem_of_getElem? h)
  · rcases comR_from a b (k + 1) z hz with h | h
    · exact ha.2.2 k z h
    · exact hb.2.2 k z h
/-- Without a 0 at the end. -/
def trmL (l : List Int) : List Int := if l.getLast? = some 0 then [] else l
def comL (a b : List Int) : List Int := trmL (comR a b)
theorem trm_ok {l : List Int} (h : PthOk l) : PthOk (trmL l) := by
  unfold trmL
  split
  · exact PthOk.nil
  · exact h
theorem trm_zero {l : List Int} {n : Nat} (h : PthOk l) (hl : l.length = n) (hn : 1 ≤ n) (hz : l[n - 1]? = some 0) : n = 1 ∧ l = [0] ∧ trmL l = [] := by
  have h1 : n = 1 := by
    rcases (by omega : n = 1 ∨ 2 ≤ n) with e | e
    · exact e
    · have := h.2.2 (n - 2) 0 (by rw [show n - 2 + 1 = n - 1 by omega]; exact hz)
      omega
  subst h1
  match l, hl with
  | [x], _ => simp at hz; subst hz; exact ⟨rfl, rfl, rfl⟩
theorem trm_keep {l : List Int} {n : Nat} {z : Int} (hl : l.length = n) (hz : l[n - 1]? = some z) (h : z ≠ 0) : trmL l = l := by
  unfold trmL
  rw [if_neg]
  rw [List.getLast?_eq_getElem?, hl, hz]
  intro e; injection e with e; exact h e
/-- So many of the common steps have been found. -/
def ComAt (a b : List Int) (k : Nat) (fs : List Int) : Prop := comR a b = fs ++ comR (a.drop k) (b.drop k)
theorem ComAt.start (a b : List Int) : ComAt a b 0 [] := rfl
theorem ComAt.step {a b : List Int} {k : Nat} {fs : List Int} {x : Int} (h : ComAt a b k fs) (ha : a[k]? = some x) (hb : b[k]? = some x) : ComAt a b (k + 1) (fs ++ [x]) := by
  unfold ComAt at *
  rw [h, drop_at ha, drop_at hb, comR, if_pos rfl]; simp
theorem ComAt.stop {a b : List Int} {k : Nat} {fs : List Int} {x y : Int} (h : ComAt a b k fs) (ha : a[k]? = some x) (hb : b[k]? = some y) (hne : x ≠ y) : comR a b = fs ++ [min x y] := by
  unfold ComAt at *
  rw [h, drop_at ha, drop_at hb, comR, if_neg hne]
theorem ComAt.done {a b : List Int} {k : Nat} {fs : List Int} (h : ComAt a b k fs) (hk : a.length ≤ k ∨ b.length ≤ k) : comR a b = fs := by
  unfold ComAt at *
  rcases hk with hk | hk
  · rw [h, List.drop_eq_nil_of_le hk, comR_nil, List.append_nil]
  · rw [h, List.drop_eq_nil_of_le hk, comR_nil', List.append_nil]

/-- A row one longer. -/
theorem com_ok {zs ys fs : List Int} {n : Nat} (h : PthOk (comR zs ys)) (e : comR zs ys = fs) (hl : fs.length = n) : PthOk fs ∧ comL zs ys = trmL fs := ⟨e ▸ h, by unfold comL; rw [e]⟩
theorem pth_row {w : World} {base e n c : Nat} {A : Option Addr} {fs : List Int} (h : w.ownsRow base e 1 (.slice A n c) n (fs.map (Value.int .i64))) (hok : PthOk fs) : IRow w A n fs :=
  IRow.of_own h (by have := own_lenI h; have := hok.1; omega) (fun z hz => by have := hok.2.1 z hz; unfold Rng; omega)
/-- The end of a common beginning. -/
theorem trm_own {w : World} {base n c : Nat} {A : Option Addr} {fs : List Int} (h : w.ownsRow base 2 1 (.slice A n c) n (fs.map (Value.int .i64))) : w.ownsRow base 2 1 (.slice A (trmL fs).length c) (trmL fs).length ((trmL fs).map (Value.int .i64)) := by
  have hl := own_lenI h
  unfold trmL
  split
  · exact own_truncI h 0 (Nat.zero_le _)
  · rw [hl]; exact h
theorem com_keep {w W : World} {a b : Addr} {x y : Value} (hx : w.cell? a = some x) (hy : w.cell? b = some y) (hb : Below w.heap.size w W) : W.cell? a = some x ∧ W.cell? b = some y ∧ Below w.heap.size w W :=
  ⟨(hb.cell (World.block_lt_of_cell? w a hx)).trans hx, (hb.cell (World.block_lt_of_cell? w b hy)).trans hy, hb⟩
end Go.Proofs.YtlpglibnjmjjkaaGreatDoor
namespace Go.Proofs.YtlpglibnjmjjkaaGreatDoor
open Go.RowKit
set_option linter.unusedVariables false
set_option linter.unusedSimpArgs false
attribute [local go_sem ↓] Go.wp_at_zero Go.wp_at_succ

theorem cmpI_lt {x y : Int} (h : x < y) : cmpI x y = -1 := if_pos h
theorem cmpI_gt {x y : Int} (h : y < x) : cmpI x y = 1 := by unfold cmpI; rw [if_neg (show ¬ x < y by omega), if_pos h]
theorem cmpI_eq (x : Int) : cmpI x x = 0 := by unfold cmpI; simp
theorem cmpI_sub {x y u v : Int} (h : x - y = u - v) : cmpI x y = cmpI u v := by
  rcases (by omega : x < y ∨ y < x ∨ x = y) with h1 | h1 | h1
  · rw [cmpI_lt h1, cmpI_lt (show u < v by omega)]
  · rw [cmpI_gt h1, cmpI_gt (show v < u by omega)]
  · have h2 : u = v := by omega
    subst h1 h2
    rw [cmpI_eq, cmpI_eq]
theorem cmpI_neg (x y : Int) : cmpI x y = - cmpI y x := by
  rcases (by omega : x < y ∨ y < x ∨ x = y) with h | h | h
  · rw [cmpI_lt h, cmpI_gt h]
  · rw [cmpI_gt h, cmpI_lt h]; rfl
  · subst h; rw [cmpI_eq]; rfl
theorem cmpT_self : ∀ (l : List Int) (s : Int), cmpT s l l = 0
  | [], _ => rfl
  | x :: l, s => by rw [cmpT, if_neg (by omega), if_neg (by omega), cmpT_self l]
theorem floor_lt {p r : Int} {d e : Nat} (hd : 0 < d) (he : 0 < e) (h : p / (d : Int) < r / (e : Int)) : p * e < r * d := by
  have h1 := quo_mul p hd
  have h2 := mod_bd p hd
  have h3 := quo_mul r he
  have h4 := mod_bd r he
  generalize p / (d : Int) = a at *
  generalize r / (e : Int) = b at *
  generalize p % (d : Int) = x at *
  generalize r % (e : Int) = y at *
  have hp : p = a * d + x := by omega
  have hr : r = b * e + y := by omega
  have hde : 0 < (d : Int) * e := Int.mul_pos (by omega) (by omega)
  have k1 : x * e < d * e := Int.mul_lt_mul_of_pos_right (by omega) (by omega)
  have k2 : 0 ≤ y * d := Int.mul_nonneg (by omega) (by omega)
  have k3 : (a + 1) * (d * e) ≤ b * (d * e) := Int.mul_le_mul_of_nonneg_right (by omega) (by omega)
  have e1 : p * e = a * (d * e) + x * e := by rw [hp]; grind
  have e2 : r * d = b * (d * e) + y * d := by rw [hr]; grind
  have e3 : (a + 1) * (d * e : Int) = a * (d * e) + d * e := by grind
  omega
/-- The order of the terms is that of the values. -/
theorem cmpT_expN (d : Nat) : ∀ (e : Nat) (p r s : Int), 0 < d → 0 < e → cmpT s (expN p d) (expN r e) = s * cmpI (p * e) (r * d) := by
  induction d using Nat.strongRecOn with
  | ind d ih =>
    intro e p r s hd he
    rw [expN_pos hd, expN_pos he, cmpT]
    rcases (by omega : p / (d : Int) < r / (e : Int) ∨ r / (e : Int) < p / (d : Int) ∨ p / (d : Int) = r / (e : Int)) with h | h | h
    · rw [if_pos h, show cmpI (p * e) (r * d) = -1 from if_pos (floor_lt hd he h)]; omega
    · have hl := floor_lt he hd h
      rw [if_neg (by omega), if_pos h, show cmpI (p * e) (r * d) = 1 from by unfold cmpI; rw [if_neg (by omega), if_pos hl]]; omega
    · rw [if_neg (by omega), if_neg (by omega)]
      have h1 := quo_mul p hd
      have h2 := mod_bd p hd
      have h3 := quo_mul r he
      have h4 := mod_bd r he
      rw [h] at h1
      generalize r / (e : Int) = b at *
      have hx : ((p % (d : Int)).toNat : Int) = p % (d : Int) := Int.toNat_of_nonneg h2.1
      have hy : ((r % (e : Int)).toNat : Int) = r % (e : Int) := Int.toNat_of_nonneg h4.1
      generalize (p % (d : Int)).toNat = x at *
      generalize (r % (e : Int)).toNat = y at *
      rw [← hx] at h1 h2
      rw [← hy] at h3 h4
      have hp : p = b * d + x := by omega
      have hr : r = b * e + y := by omega
      have hdiff : p * e - r * d = (e : Int) * x - d * y := by rw [hp, hr]; grind
      rcases Nat.eq_zero_or_pos x with hx0 | hx0
      · rcases Nat.eq_zero_or_pos y with hy0 | hy0
        · subst hx0 hy0
          rw [expN_zero, expN_zero, cmpI_sub (u := 0) (v := 0) (by simpa using hdiff)]
          simp [cmpT, cmpI]
        · subst hx0
          have : 0 < (d : Int) * y := Int.mul_pos (by omega) (by omega)
          rw [expN_zero, expN_pos hy0, show cmpI (p * e) (r * d) = -1 from if_pos (by have := hdiff; simp at this; omega)]
          simp [cmpT]
      · rcases Nat.eq_zero_or_pos y with hy0 | hy0
        · subst hy0
          have : 0 < (e : Int) * x := Int.mul_pos (by omega) (by omega)
          rw [expN_zero, expN_pos hx0, show cmpI (p * e) (r * d) = 1 from by unfold cmpI; rw [if_neg (by have := hdiff; simp at this; omega), if_pos (by have := hdiff; simp at this; omega)]]
          simp [cmpT]
        · rw [ih x (by omega) y d e (-s) hx0 hy0, cmpI_sub (x := p * e) (y := r * d) (u := e * x) (v := d * y) hdiff, cmpI_neg (e * x) (d * y)]
          grind
theorem shL_ot {zs : List Int} {m : Nat} {z : Int} (hl : zs.length = m + 1) (hz : zs[m]? = some z) : shL (zs.set m (z - 1) ++ [1]) = zs := by
  have h1 : (zs.set m (z - 1) ++ [1]).length = m + 2 := by simp [hl]
  have h2 : (zs.set m (z - 1) ++ [1])[m + 2 - 1]? = some 1 := by
    rw [List.getElem?_append_right (by simp [hl])]; simp [hl]
  have h3 : (zs.set m (z - 1) ++ [1])[m + 2 - 2]? = some (z - 1) := by
    rw [List.getElem?_append_left (by simp [hl]), List.getElem?_set]; simp [hl]
  rw [shL_t h1 (by omega) h2 h3]
  apply List.ext_getElem?
  intro j
  rw [List.getElem?_set, List.length_take, h1]
  by_cases hj : m + 2 - 2 = j
  · rw [if_pos hj, if_pos (by omega)]
    have : j = m := by omega
    rw [this, hz]; simp
  · rw [if_neg hj, List.getElem?_take]
    by_cases hj2 : j < m + 2 - 1
    · rw [if_pos hj2, List.getElem?_append_left (by simp [hl]; omega), List.getElem?_set, if_neg (by omega)]
    · rw [if_neg hj2, List.getElem?_eq_none (by omega)]
theorem terms_ok {x : Int} {d : Nat} (hx1 : -300 ≤ x) (hx2 : x ≤ 300) (hd : 0 < d) (hd2 : d ≤ 300) :
    trmB (expN x d) = true ∧ shL (expN x d) = expN x d ∧ otfC (expN x d) = 0 ∧ trmB (otfL (expN x d)) = true ∧ shL (otfL (expN x d)) = expN x d := by
  obtain ⟨m, hm⟩ : ∃ m, (expN x d).length = m + 1 := ⟨(expN x d).length - 1, by have := List.length_pos_iff.2 (expN_ne (a := x) hd); omega⟩
  obtain ⟨z, hz⟩ : ∃ z, (expN x d)[m]? = some z := ⟨_, List.getElem?_eq_getElem (by omega)⟩
  have hb := expN_rng d x (by omega) (by omega) (by omega)
  have hl := expN_log 9 x d (by omega)
  have hge := expN_ge d x hd
  have hhead : ∀ y, (expN x d)[0]? = some y → -300 ≤ y := by
    intro y hy
    rw [expN_pos hd] at hy
    simp at hy
    have h1 := quo_mul x hd
    have h2 := mod_bd x hd
    rw [← hy]
    rcases Int.lt_or_le (x / (d : Int)) (-300) with h | h
    · exfalso
      have : x / (d : Int) * d ≤ (-301) * d := Int.mul_le_mul_of_nonneg_right (by omega) (by omega)
      omega
    · exact h
  have hlast : 1 ≤ m → 2 ≤ z := by
    intro h1
    have hmd := mod_bd x hd
    rcases Nat.eq_zero_or_pos (x % (d : Int)).toNat with he | he
    · rw [expN_pos hd, he, expN_zero] at hm; simp at hm; omega
    · have hla : (expN x d).getLast? = some z := by rw [List.getLast?_eq_getElem?, hm]; exact hz
      rw [expN_pos hd, List.getLast?_cons_of_ne_nil (expN_ne he)] at hla
      exact expN_last _ d he (by omega) z hla
  have ht : trmB (expN x d) = true := trmB_iff.2 ⟨by omega, by omega, fun k y hy => by
    have h1 := hb y (List.mem_of_getElem? hy)
    cases k with
    | zero => simp; omega
    | succ k => have := hge k y hy; simp; omega⟩
  have hs : shL (expN x d) = expN x d := shL_f (by
    rintro ⟨h1, h2⟩
    rw [hm] at h1 h2
    have := expN_one hd hm (by simpa using h2)
    omega)
  have hsb : shB (expN x d) = false := by
    unfold shB
    rw [decide_eq_false_iff_not]
    rintro ⟨h1, h2⟩
    rw [hm] at h1 h2
    have := expN_one hd hm (by simpa using h2)
    omega
  have ho : otL (expN x d) = (expN x d).set m (z - 1) ++ [1] := by
    unfold otL
    rw [hsb, if_neg (by simp), hm, List.getD_eq_getElem?_getD, show m + 1 - 1 = m by omega, hz]; rfl
  have hto : trmB (otL (expN x d)) = true := by
    rw [ho]
    refine trmB_iff.2 ⟨by simp, by simp [hm]; omega, fun k y hy => ?_⟩
    rw [List.getElem?_append] at hy
    split at hy
    · rw [List.getElem?_set] at hy
      split at hy
      · rename_i hk
        split at hy
        · injection hy with hy
          subst hy hk
          have h1 := hb z (List.mem_of_getElem? hz)
          rcases Nat.eq_zero_or_pos m with h0 | h0
          · subst h0; have := hhead z hz; simp; omega
          · have := hlast h0; rw [if_neg (by omega)]; omega
        · cases hy
      · have h1 := hb y (List.mem_of_getElem? hy)
        cases k with
        | zero => simp; omega
        | succ k => have := hge k y hy; simp; omega
    · rename_i hk
      have hlen : ((expN x d).set m (z - 1)).length = m + 1 := by simp [hm]
      have : y = 1 := by
        cases hkk : k - ((expN x d).set m (z - 1)).length with
        | zero => rw [hkk] at hy; simp at hy; exact hy.symm
        | succ j => rw [hkk] at hy; simp at hy
      subst this
      rw [if_neg (by omega)]; omega
  have hol : otfL (expN x d) = otL (expN x d) := if_pos ⟨ht, hto⟩
  refine ⟨ht, hs, ?_, by rw [hol]; exact hto, ?_⟩
  · unfold otfC; rw [if_pos ht, if_pos hto]
  · rw [hol, ho]; exact shL_ot hm hz
theorem a2Long_one (A : Option Addr) (n cap : Nat) (w : World) (hn : n ≤ 9223372036854775807) : Calls Tryz.prog 5 #[.slice A n cap, .slice none 0 0] w fun e w' => e = .returned (.bool (decide ((3000 : Int) < n))) ∧ w = w' := by
  by_cases h : (3000 : Int) < n
  · rw [decide_eq_true h]
    go_enter Tryz.func5, Tryz.ntmps5
    go_wp2_with fail
    go_ret
    exact ⟨rfl, rfl⟩
  · rw [decide_eq_false h]
    have h' : decide ((3000 : Int) < n) = false := decide_eq_false h
    go_enter Tryz.func5, Tryz.ntmps5
    go_wp2_with fail
    go_ret
    exact ⟨rfl, rfl⟩
end Go.Proofs.YtlpglibnjmjjkaaGreatDoor
namespace Go.Proofs.YtlpglibnjmjjkaaGreatDoor
set_option linter.unusedVariables false

theorem gcd_det {a b u v : Int} (h : a * v - u * b = 1 ∨ a * v - u * b = -1) : Int.gcd a b = 1 := by
  obtain ⟨k, hk⟩ : (Int.gcd a b : Int) ∣ a := Int.gcd_dvd_left ..
  obtain ⟨m, hm⟩ : (Int.gcd a b : Int) ∣ b := Int.gcd_dvd_right ..
  generalize Int.gcd a b = g at *
  have e : a * v - u * b = g * (k * v - u * m) := by rw [hk, hm]; grind
  have h1 : (g : Int) ∣ 1 := by
    rcases h with h | h
    · exact ⟨k * v - u * m, by rw [← e, h]⟩
    · exact ⟨-(k * v - u * m), by rw [Int.mul_neg, ← e, h]; rfl⟩
  have := Int.eq_one_of_dvd_one (by omega) h1
  omega
/-- Neighbours that follow each other. -/
def Nbs : Int × Int → List (Int × Int) → Prop
  | _, [] => True
  | u, v :: r => (u.1 * v.2 - v.1 * u.2 = 1 ∨ u.1 * v.2 - v.1 * u.2 = -1) ∧ Nbs v r
/-- The signs of two numerators that follow each other. -/
def Sg (p p0 : Int) : Prop := (0 ≤ p ∧ 0 ≤ p0) ∨ (p ≤ 0 ∧ p0 ≤ 0) ∨ (p ≤ -1 ∧ p0 = 1)
theorem sg_step {p p0 s : Int} (h : Sg p p0) (hs : 1 ≤ s) : (0 ≤ s * p + p0 ∧ 0 ≤ p) ∨ (s * p + p0 ≤ 0 ∧ p ≤ 0) := by
  rcases h with ⟨h1, h2⟩ | ⟨h1, h2⟩ | ⟨h1, h2⟩
  · have := Int.mul_nonneg (show 0 ≤ s by omega) h1
    exact .inl ⟨by omega, h1⟩
  · have := Int.mul_nonneg (show 0 ≤ s by omega) (show 0 ≤ -p by omega)
    rw [Int.mul_neg] at this
    exact .inr ⟨by omega, h1⟩
  · have := Int.mul_le_mul hs (show 1 ≤ -p by omega) (by omega) (by omega)
    rw [Int.mul_neg] at this
    exact .inr ⟨by omega, by omega⟩
theorem det_next (p q p0 q0 s : Int) : (s * p + p0) * q - p * (s * q + q0) = -(p * q0 - p0 * q) := by grind
theorem part_le {x u p : Int} {b r : Int} (hb : 1 ≤ b) (hr : 0 ≤ r) (h : x = b * u + r * p) (hs : (0 ≤ u ∧ 0 ≤ p) ∨ (u ≤ 0 ∧ p ≤ 0)) (h1 : -1000000000 ≤ x) (h2 : x ≤ 1000000000) : -1000000000 ≤ u ∧ u ≤ 1000000000 := by
  rcases hs with ⟨hu, hp⟩ | ⟨hu, hp⟩
  · have a1 := Int.mul_nonneg hr hp
    have a2 := Int.mul_le_mul_of_nonneg_right hb hu
    omega
  · have a1 := Int.mul_nonneg hr (show 0 ≤ -p by omega)
    have a2 := Int.mul_le_mul_of_nonneg_right hb (show 0 ≤ -u by omega)
    rw [Int.mul_neg] at a1 a2
    rw [Int.mul_neg] at a2
    omega
theorem cvgO_cons {t p q p0 q0 : Int} {r : List Int} {l : List (Int × Int)} (hv : vfB (t * p + p0) (t * q + q0) = true) (h : cvgO r (t * p + p0) (t * q + q0) p q = some l) : cvgO (t :: r) p q p0 q0 = some ((t * p + p0, t * q + q0) :: l) := by
  rw [cvgO, if_pos hv, h]; rfl
theorem gcd_one_rem {a : Int} {b : Nat} (hb : 0 < b) (hg : Int.gcd a b = 1) (h : a % (b : Int) = 0) : b = 1 := by
  have hd : (b : Int) ∣ a := Int.dvd_of_emod_eq_zero h
  have : Int.gcd a b = b := by rw [Int.gcd_comm, Int.gcd_eq_natAbs_left hd]; rfl
  omega
theorem gcd_rem {a : Int} {b : Nat} (hb : 0 < b) (hg : Int.gcd a b = 1) : Int.gcd b ((a % (b : Int)).toNat : Int) = 1 := by
  rw [Int.toNat_of_nonneg (mod_bd a hb).1, ← hg, Int.gcd_comm a, Int.emod_def, Int.gcd_sub_mul_left_right]

set_option maxHeartbeats 800000 in
theorem cvg_main (b : Nat) : ∀ (a p q p0 q0 x d : Int), 0 < b → (b : Int) < a → 1 ≤ q → 0 ≤ q0 → Sg p p0 → x = a * p + b * p0 → d = a * q + b * q0 → -1000000000 ≤ x → x ≤ 1000000000 → d ≤ 1000000000 →
    Int.gcd a b = 1 → (p * q0 - p0 * q = 1 ∨ p * q0 - p0 * q = -1) →
    (∃ l, cvgO (expN a b) p q p0 q0 = some l ∧ l.getLast? = some (x, d) ∧ Nbs (p, q) l) ∧ (∃ l, cvgO (decL (expN a b) ++ [1]) p q p0 q0 = some l ∧ l.getLast? = some (x, d)) := by
  induction b using Nat.strongRecOn with
  | ind b ih =>
    intro a p q p0 q0 x d hb hab hq hq0 hsg hx hd x1 x2 d2 hg hdet
    have hm := mod_bd a hb
    have hqm := quo_mul a hb
    have ht : 1 ≤ a / (b : Int) := by
      rcases Int.lt_or_le (a / (b : Int)) 1 with h | h
      · exfalso
        have : a / (b : Int) * b ≤ 0 * b := Int.mul_le_mul_of_nonneg_right (by omega) (by omega)
        omega
      · exact h
    obtain ⟨t, hte⟩ : ∃ t, t = a / (b : Int) := ⟨_, rfl⟩
    rw [← hte] at hqm ht
    have ha : a = t * b + a % (b : Int) := by omega
    have hx' : x = b * (t * p + p0) + (a % (b : Int)) * p := by rw [hx]; generalize a % (b : Int) = r at *; subst ha; grind
    have hd' : d = b * (t * q + q0) + (a % (b : Int)) * q := by rw [hd]; generalize a % (b : Int) = r at *; subst ha; grind
    have hsn := sg_step hsg ht
    have hbd := part_le (show (1 : Int) ≤ b by omega) hm.1 hx' hsn x1 x2
    have hq' : 1 ≤ t * q := by have := Int.mul_le_mul ht hq (by omega) (by omega); omega
    have hqd : t * q + q0 ≤ d := by
      have a1 := Int.mul_nonneg hm.1 (show 0 ≤ q by omega)
      have a2 := Int.mul_le_mul_of_nonneg_right (show (1 : Int) ≤ b by omega) (show 0 ≤ t * q + q0 by omega)
      omega
    have hdn := det_next p q p0 q0 t
    have hdet' : (t * p + p0) * q - p * (t * q + q0) = 1 ∨ (t * p + p0) * q - p * (t * q + q0) = -1 := by omega
    have hv : vfB (t * p + p0) (t * q + q0) = true := vfB_iff.2 ⟨by omega, by omega, hbd.1, hbd.2, gcd_det hdet'⟩
    have hnb : p * (t * q + q0) - (t * p + p0) * q = 1 ∨ p * (t * q + q0) - (t * p + p0) * q = -1 := by omega
    rw [expN_pos hb, ← hte]
    rcases Nat.eq_zero_or_pos (a % (b : Int)).toNat with he | he
    · have he0 : a % (b : Int) = 0 := by omega
      have hb1 := gcd_one_rem hb hg he0
      subst hb1
      rw [he, expN_zero]
      rw [he0] at hx' hd' ha
      have hx2 : x = t * p + p0 := by simp at hx'; exact hx'
      have hd2 : d = t * q + q0 := by simp at hd'; exact hd'
      refine ⟨⟨[(t * p + p0, t * q + q0)], cvgO_cons hv rfl, by rw [hx2, hd2]; rfl, hnb, trivial⟩, ?_⟩
      have ht2 : 1 ≤ t - 1 := by simp at ha hab; omega
      have e1 : (t - 1) * p + p0 = x - p := by rw [hx2, Int.sub_mul]; omega
      have e2 : (t - 1) * q + q0 = d - q := by rw [hd2, Int.sub_mul]; omega
      have hsn2 := sg_step hsg ht2
      have hq2 : 1 ≤ (t - 1) * q := by have := Int.mul_le_mul ht2 hq (by omega) (by omega); omega
      have hdn2 := det_next p q p0 q0 (t - 1)
      have hv2 : vfB ((t - 1) * p + p0) ((t - 1) * q + q0) = true := vfB_iff.2 ⟨by omega, by omega, by omega, by omega, gcd_det (u := p) (v := q) (by omega)⟩
      have e3 : 1 * ((t - 1) * p + p0) + p = x := by omega
      have e4 : 1 * ((t - 1) * q + q0) + q = d := by omega
      have hv3 : vfB (1 * ((t - 1) * p + p0) + p) (1 * ((t - 1) * q + q0) + q) = true := by rw [e3, e4, hx2, hd2]; exact hv
      refine ⟨[((t - 1) * p + p0, (t - 1) * q + q0), (1 * ((t - 1) * p + p0) + p, 1 * ((t - 1) * q + q0) + q)], cvgO_cons hv2 (cvgO_cons hv3 rfl), ?_⟩
      rw [e3, e4]; rfl
    · have hcast : (((a % (b : Int)).toNat : Nat) : Int) = a % (b : Int) := Int.toNat_of_nonneg hm.1
      obtain ⟨⟨l, h1, h2, h3⟩, ⟨l', h4, h5⟩⟩ := ih (a % (b : Int)).toNat (by omega) b (t * p + p0) (t * q + q0) p q x d he (by omega) (by omega) (by omega) (by unfold Sg; omega) (by rw [hcast]; exact hx') (by rw [hcast]; exact hd') x1 x2 d2 (gcd_rem hb hg) hdet'
      have hl : l ≠ [] := fun e => by subst e; cases h2
      have hl' : l' ≠ [] := fun e => by subst e; cases h5
      refine ⟨⟨_, cvgO_cons hv h1, by rw [List.getLast?_cons_of_ne_nil hl]; exact h2, hnb, h3⟩, ?_⟩
      rw [decL_cons (expN_ne he), List.cons_append]
      exact ⟨_, cvgO_cons hv h4, by rw [List.getLast?_cons_of_ne_nil hl']; exact h5⟩

/-- The convergents of the short terms of a fraction. -/
theorem cvg_exp {x : Int} {d : Nat} (hd : 0 < d) (h1 : -1000000000 < x) (h2 : x ≤ 1000000000) (h3 : d ≤ 1000000000) (hg : Int.gcd x d = 1) :
    (∃ v r, cvgO (expN x d) 1 0 0 1 = some (v :: r) ∧ (v :: r).getLast? = some (x, (d : Int)) ∧ Nbs v r) ∧ (∃ l, cvgO (decL (expN x d) ++ [1]) 1 0 0 1 = some l ∧ l.getLast? = some (x, (d : Int))) := by
  have hm := mod_bd x hd
  have hqm := quo_mul x hd
  have hqb := quo_bd x hd (by omega) h2
  obtain ⟨t, hte⟩ : ∃ t, t = x / (d : Int) := ⟨_, rfl⟩
  rw [← hte] at hqm hqb
  have e1 : t * 1 + 0 = t := by omega
  have e2 : t * 0 + 1 = 1 := by omega
  have hv : vfB (t * 1 + 0) (t * 0 + 1) = true := by rw [e1, e2]; exact vfB_iff.2 ⟨by omega, by omega, hqb.1, hqb.2, Int.gcd_one_right ..⟩
  rw [expN_pos hd, ← hte]
  rcases Nat.eq_zero_or_pos (x % (d : Int)).toNat with he | he
  · have he0 : x % (d : Int) = 0 := by omega
    have hd1 := gcd_one_rem hd hg he0
    subst hd1
    have hxt : x = t := by simp at hqm; omega
    rw [he, expN_zero]
    refine ⟨⟨_, _, cvgO_cons hv rfl, by rw [e1, e2, hxt]; rfl, trivial⟩, ?_⟩
    have f1 : (t - 1) * 1 + 0 = t - 1 := by omega
    have f2 : (t - 1) * 0 + 1 = 1 := by omega
    have hv2 : vfB ((t - 1) * 1 + 0) ((t - 1) * 0 + 1) = true := by rw [f1, f2]; exact vfB_iff.2 ⟨by omega, by omega, by omega, by omega, Int.gcd_one_right ..⟩
    have g1 : 1 * ((t - 1) * 1 + 0) + 1 = t := by omega
    have g2 : 1 * ((t - 1) * 0 + 1) + 0 = 1 := by omega
    have hv3 : vfB (1 * ((t - 1) * 1 + 0) + 1) (1 * ((t - 1) * 0 + 1) + 0) = true := by rw [g1, g2]; exact vfB_iff.2 ⟨by omega, by omega, by omega, by omega, Int.gcd_one_right ..⟩
    refine ⟨_, cvgO_cons hv2 (cvgO_cons hv3 rfl), ?_⟩
    rw [g1, g2, hxt]; rfl
  · have hcast : (((x % (d : Int)).toNat : Nat) : Int) = x % (d : Int) := Int.toNat_of_nonneg hm.1
    have hx' : x = d * t + x % (d : Int) := by rw [Int.mul_comm]; omega
    obtain ⟨⟨l, k1, k2, k3⟩, ⟨l', k4, k5⟩⟩ := cvg_main (x % (d : Int)).toNat d (t * 1 + 0) (t * 0 + 1) 1 0 x d he (by omega) (by omega) (by omega) (by unfold Sg; omega) (by rw [hcast, e1]; omega) (by rw [e2]; omega) (by omega) h2 (by omega) (gcd_rem hd hg) (by rw [e1, e2]; omega)
    have hl : l ≠ [] := fun e => by subst e; cases k2
    have hl' : l' ≠ [] := fun e => by subst e; cases k5
    refine ⟨⟨_, _, cvgO_cons hv k1, by rw [List.getLast?_cons_of_ne_nil hl]; exact k2, k3⟩, ?_⟩
    rw [decL_cons (expN_ne he), List.cons_append]
    exact ⟨_, cvgO_cons hv k4, by rw [List.getLast?_cons_of_ne_nil hl']; exact k5⟩
end Go.Proofs.YtlpglibnjmjjkaaGreatDoor
namespace Go.Proofs.YtlpglibnjmjjkaaGreatDoor
open Go.Lib
set_option linter.unusedVariables false

theorem lastP_last {l : List (Int × Int)} {z : Int × Int} (h : l.getLast? = some z) : lastP l = z := by
  rw [List.getLast?_eq_getElem?] at h
  unfold lastP
  rw [List.getD_eq_getElem?_getD, h]; rfl
theorem nbs_at : ∀ (l : List (Int × Int)) (u : Int × Int), Nbs u l → ∀ i a b, (u :: l)[i]? = some a → (u :: l)[i + 1]? = some b → a.1 * b.2 - b.1 * a.2 = 1 ∨ a.1 * b.2 - b.1 * a.2 = -1
  | [], u, _, i, a, b, _, hb => by simp at hb
  | v :: r, u, h, 0, a, b, ha, hb => by
    simp at ha hb
    subst ha hb
    exact h.1
  | v :: r, u, h, i + 1, a, b, ha, hb => nbs_at r v h.2 i a b ha hb
/-- The common beginning of the two forms. -/
theorem comm_ot {zs : List Int} {m : Nat} {z : Int} (hl : zs.length = m + 1) (hz : zs[m]? = some z) : comm zs (zs.set m (z - 1) ++ [1]) = m := by
  have h1 := comm_le1 zs (zs.set m (z - 1) ++ [1])
  rcases Nat.lt_trichotomy (comm zs (zs.set m (z - 1) ++ [1])) m with h | h | h
  · exfalso
    obtain ⟨a, ha⟩ : ∃ a, zs[comm zs (zs.set m (z - 1) ++ [1])]? = some a := ⟨_, List.getElem?_eq_getElem (by omega)⟩
    have hb : (zs.set m (z - 1) ++ [1])[comm zs (zs.set m (z - 1) ++ [1])]? = some a := by
      rw [List.getElem?_append_left (by simp; omega), List.getElem?_set, if_neg (by omega)]; exact ha
    exact comm_at _ _ a a ha hb rfl
  · exact h
  · exfalso
    have hb : (zs.set m (z - 1) ++ [1])[m]? = some (z - 1) := by
      rw [List.getElem?_append_left (by simp; omega), List.getElem?_set]; simp [hl]
    have := comm_lt _ _ m z (z - 1) hz hb h
    omega
/-- All that the law of expansions wants of a fraction. -/
theorem exps {x y : Int} (hv : vfB x y = true) (x1 : -300 ≤ x) (x2 : x ≤ 300) (y2 : y ≤ 300) :
    ∃ (L O : List Int) (all : List (Int × Int)) (m : Nat), expL x y = L ∧ expC x y = 0 ∧ L.length = m + 1 ∧ m ≤ 59 ∧ trmB L = true ∧ (1 ≤ m → L[m]? ≠ some 1) ∧
      valT L = (x, y, 0) ∧ otfL L = O ∧ otfC L = 0 ∧ trmB O = true ∧ valT O = (x, y, 0) ∧ otfL O = L ∧ otfC O = 0 ∧ cvfL L = all ∧ cvfC L = 0 ∧ all.length = m + 1 ∧
      (∀ z ∈ all, vfB z.1 z.2 = true) ∧ (∀ i a b, all[i]? = some a → all[i + 1]? = some b → nbB a.1 a.2 b.1 b.2 = true) ∧ all[m]? = some (x, y) ∧ comm L O = m := by
  obtain ⟨y1, yb, xa, xb, hg⟩ := vfB_iff.1 hv
  obtain ⟨d, rfl⟩ : ∃ d : Nat, y = d := ⟨y.toNat, by omega⟩
  have hd : 0 < d := by omega
  obtain ⟨t1, t2, t3, t4, t5⟩ := terms_ok x1 x2 hd (by omega)
  obtain ⟨⟨v, r, c1, c2, c3⟩, ⟨l, c4, c5⟩⟩ := cvg_exp hd (by omega) xb (by omega) hg
  obtain ⟨m, hm⟩ : ∃ m, (expN x d).length = m + 1 := ⟨(expN x d).length - 1, by have := List.length_pos_iff.2 (expN_ne (a := x) hd); omega⟩
  obtain ⟨z, hz⟩ : ∃ z, (expN x d)[m]? = some z := ⟨_, List.getElem?_eq_getElem (by omega)⟩
  have hexp : expL x (d : Int) = expN x d := by unfold expL; rw [if_pos hv]; rfl
  have hlast : 1 ≤ m → (expN x d)[m]? ≠ some 1 := fun h1 h2 => by have := expN_one hd hm h2; omega
  have hsb : shB (expN x d) = false := by
    unfold shB
    rw [decide_eq_false_iff_not, hm]
    rintro ⟨h1, h2⟩
    exact hlast (by omega) h2
  have ho : otL (expN x d) = (expN x d).set m (z - 1) ++ [1] := by
    unfold otL
    rw [hsb, if_neg (by simp), hm, List.getD_eq_getElem?_getD, show m + 1 - 1 = m by omega, hz]; rfl
  have hto : trmB (otL (expN x d)) = true := by
    cases h : trmB (otL (expN x d))
    · unfold otfC at t3
      rw [if_pos t1, h] at t3
      simp at t3
    · rfl
  have hO : otfL (expN x d) = (expN x d).set m (z - 1) ++ [1] := by unfold otfL; rw [if_pos ⟨t1, hto⟩, ho]
  have hdec : otfL (expN x d) = decL (expN x d) ++ [1] := by rw [hO, decL_set _ m z hm hz]
  have hsO : shB (otfL (expN x d)) = true := by
    rw [hO]
    unfold shB
    refine decide_eq_true ⟨by simp [hm], ?_⟩
    rw [List.getElem?_append_right (by simp)]; simp
  have hotO : otL (otfL (expN x d)) = expN x d := by
    unfold otL
    rw [hsO, if_pos rfl]; exact t5
  obtain ⟨n1, n2, _⟩ := trmB_iff.1 t1
  have hall : cvgL (expN x d) = v :: r := by unfold cvgL; rw [c1]; rfl
  have hb : cvgB (expN x d) = true := by unfold cvgB; rw [c1]; rfl
  obtain ⟨len, val⟩ := cvgO_len _ _ _ _ _ _ c1
  refine ⟨expN x d, otfL (expN x d), v :: r, m, hexp, if_pos hv, hm, by omega, t1, hlast, ?_, rfl, t3, t4, ?_, ?_, ?_, ?_, ?_, by rw [len, hm], val, ?_, ?_, ?_⟩
  · unfold valT
    rw [if_pos t1, if_pos hb, hall, lastP_last c2]
  · have hb' : cvgB (otfL (expN x d)) = true := by unfold cvgB; rw [hdec, c4]; rfl
    have hl' : cvgL (otfL (expN x d)) = l := by unfold cvgL; rw [hdec, c4]; rfl
    unfold valT
    rw [if_pos t4, if_pos hb', hl', lastP_last c5]
  · show otfL (otfL (expN x d)) = _
    rw [otfL, hotO, if_pos ⟨t4, t1⟩]
  · rw [otfC, if_pos t4, hotO, if_pos t1]
  · unfold cvfL; rw [if_pos t1, hall]
  · unfold cvfC; rw [if_pos t1, if_pos hb]
  · intro i a b ha hb2
    have h1 := val a (List.mem_of_getElem? ha)
    have h2 := val b (List.mem_of_getElem? hb2)
    have := nbs_at r v c3 i a b ha hb2
    rw [nbB_c h1 h2]
    exact decide_eq_true (by omega)
  · rw [List.getLast?_eq_getElem?, len, hm] at c2
    exact c2
  · rw [hO]; exact comm_ot hm hz
end Go.Proofs.YtlpglibnjmjjkaaGreatDoor
namespace Go.Proofs.YtlpglibnjmjjkaaGreatDoor
open Go.RowKit
set_option linter.unusedVariables false
set_option linter.unusedSimpArgs false
attribute [local go_sem ↓] Go.wp_at_zero Go.wp_at_succ

theorem bodL_len : ∀ (r : List Int), (∀ z ∈ r, Rng z) → (bodL r).length ≤ 23 * r.length
  | [], _ => Nat.le_refl _
  | n :: r, h => tlL_len (n :: r) h
theorem txS_size {L : List Int} (h : trmB L = true) (hr : ∀ z ∈ L, Rng z) : (txS L).size ≤ 1048576 := by
  obtain ⟨h1, h2, _⟩ := trmB_iff.1 h
  rw [show txS L = ⟨(txL L).toArray⟩ from if_pos h, ← len_size, data_mk]
  match L, h1, h2, hr with
  | z :: r, _, h2, hr =>
    have a1 := Lib.itoa_length_le z (hr z (by simp)).1 (hr z (by simp)).2
    have a2 := bodL_len r (fun y hy => hr y (by simp [hy]))
    show (91 :: (Lib.itoa z ++ bodL r) ++ [93]).length ≤ _
    simp at h2 ⊢
    omega
theorem a2Same_same (A : Option Addr) (n cap : Nat) (A' : Option Addr) (cap' : Nat) (zs : List Int) (w : World) (h : IRow w A n zs) (h' : IRow w A' n zs) :
    Calls Tryz.prog 14 #[.slice A n cap, .slice A' n cap'] w fun e w' => e = .returned (.bool true) ∧ Below w.heap.size w w' := by
  have hbd := h.bd
  have hw := Lib.hid h; clear h
  have hw' := Lib.hid h'; clear h'
  go_enter Tryz.func14, Tryz.ntmps14
  go_wp2
  go_loopw [5] (fun i wr => ∃ k : Nat, k ≤ n ∧ i = .int .i64 k ∧ Below w.heap.size w wr) (fun i _ => n - (intOf i).toNat)
  case atStart => exact ⟨0, Nat.zero_le _, rfl, Below.refl _ _⟩
  case round =>
    obtain ⟨k, hk, rfl, hb⟩ := hrel
    by_cases hlt : k < n
    · obtain ⟨ad, z, rfl, hz, z1, z2, hc⟩ := (hw.out.below hb).at_ hlt
      obtain ⟨ad', z', rfl, hz', z1', z2', hc'⟩ := (hw'.out.below hb).at_ hlt
      rw [hz] at hz'; injection hz' with hz'; subst hz'
      have HZ := Lib.hid hz; clear hz
      have hb0 : (0 : Int) ≤ (k : Int) := by omega
      have hb1 : (k : Int) < (n : Int) := by omega
      go_wp2
      go_quiet (fail)
      go_wp2
      go_roundw
      case rel => exact ⟨k + 1, by omega, by go_num, hb.trans ⟨rfl, rfl, rfl, Nat.le_refl _, fun _ _ => rfl⟩⟩
      case measure => simp [intOf]; omega
    · obtain rfl : n = k := by omega
      go_wp2
      go_ret
      exact ⟨rfl, hb⟩
end Go.Proofs.YtlpglibnjmjjkaaGreatDoor
