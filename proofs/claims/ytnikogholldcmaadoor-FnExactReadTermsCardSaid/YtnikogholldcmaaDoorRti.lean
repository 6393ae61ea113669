/-
  Terms read from texts: contract of the program's function.
  The table of the powers of ten and the two errors of strconv hold what their initialisers lay; MaxLen holds a number.
-/
import Derived.Test.YtnikogholldcmaaDoorProg
import Derived.Test.YtnikogholldcmaaDoorShelf
import Derived.Test.YtnikogholldcmaaDoorMem
import Derived.Test.YtnikogholldcmaaDoorBasic
import Derived.Test.YtnikogholldcmaaDoorMarks
import Derived.Test.YtnikogholldcmaaDoorInts
import Derived.Test.YtnikogholldcmaaDoorTerms
import Derived.Test.YtnikogholldcmaaDoorOwn
import Derived.Test.YtnikogholldcmaaDoorDec
import Derived.Test.YtnikogholldcmaaDoorRdd
import Derived.Test.YtnikogholldcmaaDoorRds
import Derived.Test.YtnikogholldcmaaDoorTxtM
import Derived.Test.YtnikogholldcmaaDoorTtx
import Derived.Test.YtnikogholldcmaaDoorSplM
import Derived.Test.YtnikogholldcmaaDoorSpl
import Derived.Test.YtnikogholldcmaaDoorSpw
import Derived.Test.YtnikogholldcmaaDoorStr
import Derived.Test.YtnikogholldcmaaDoorRsgM
import Derived.Test.YtnikogholldcmaaDoorRtmM
import Derived.Test.YtnikogholldcmaaDoorRfr
import Derived.Test.YtnikogholldcmaaDoorRfs
import Derived.Test.YtnikogholldcmaaDoorRsg
import Derived.Test.YtnikogholldcmaaDoorRtm
import Derived.Handy
import Derived.BigQuiet
import Derived.Deep.QuietTactic
namespace Go.Proofs.YtnikogholldcmaaDoor
open Go.RowKit
set_option linter.unusedVariables false
set_option linter.unusedSimpArgs false
attribute [local go_sem ↓] Go.wp_at_zero Go.wp_at_succ

theorem replaceK_len : ∀ (k : Nat) (l : List UInt8), (Lib.replaceK [59, 32] [44, 32] k l).length = l.length
  | 0, l => rfl
  | k + 1, l => by
    rw [Lib.replaceK]
    split
    · rfl
    · next hi =>
      have h0 := Lib.index_ge l [59, 32]
      rw [beq_iff_eq] at hi
      have h2 := Lib.index_room l [59, 32] (by omega)
      rw [List.length_append, List.length_append, replaceK_len k, List.length_take, List.length_drop]
      simp at h2 ⊢
      omega
theorem rep_len (l : List UInt8) : (Lib.replace l [59, 32] [44, 32] 1).length = l.length := by
  unfold Lib.replace
  rw [if_neg (by decide)]
  exact replaceK_len _ _
theorem splitK_ne (sep : List UInt8) (k : Nat) (l : List UInt8) : Lib.splitK sep 0 k l ≠ [] := by
  cases k with
  | zero => rw [Lib.splitK]; simp
  | succ k => rw [Lib.splitK]; split <;> simp
theorem cutS_any (t : ByteArray) (w : World) (hs : t.size ≤ 1048576) :
    Calls Tryd.prog 59 #[.string t, .string ⟨#[93]⟩] w fun e w' => e = .returned (.tuple #[.string ⟨(Lib.trimSuffix t.data.toList [93]).toArray⟩, .bool (Lib.hasSuffix t.data.toList [93])]) ∧ w' = w :=
  Tryd.strings_CutSuffix t ⟨#[93]⟩ w (by omega)
theorem repl_any (t : ByteArray) (w : World) (hs : t.size ≤ 1048576) (hm : Mx w) :
    Calls Tryd.prog 62 #[.string t, .string ⟨#[59, 32]⟩, .string ⟨#[44, 32]⟩, .int .i64 1] w fun e w' => e = .returned (.string ⟨(Lib.replace t.data.toList [59, 32] [44, 32] 1).toArray⟩) ∧ Below w.heap.size w w' := by
  obtain ⟨m, hm⟩ := hm
  have hc := Lib.countB_le ⟨#[59, 32]⟩ (by decide) _ t (Nat.le_refl _)
  exact Tryd.strings_Replace t ⟨#[59, 32]⟩ ⟨#[44, 32]⟩ 1 m w (by omega) hm (by decide) (by
    have : (⟨#[44, 32]⟩ : ByteArray).size = 2 := rfl
    rw [this]; omega)
theorem splitComma (s : ByteArray) (w : World) (hs : s.size ≤ 1048576) (hm : Mx w) :
    Calls Tryd.prog 61 #[.string s, .string ⟨#[44, 32]⟩] w fun e w' => ∃ ts : List ByteArray, e = .returned (.slice (some ⟨w.heap.size, 0, none⟩) ts.length ts.length) ∧ ts.map (fun t : ByteArray => t.data.toList) = Lib.splitK [44, 32] 0 (Lib.count s.data.toList [44, 32]) s.data.toList ∧
      (∀ (k : Nat) t, ts[k]? = some t → w'.cell? ⟨w.heap.size, k, none⟩ = some (.string t)) ∧ Below w.heap.size w w' ∧ w.heap.size < w'.heap.size := by
  obtain ⟨m, hm⟩ := hm
  refine (Tryd.strings_Split s ⟨#[44, 32]⟩ m w (by omega) hm (by decide)).mono ?_
  rintro e w' ⟨he, hw⟩
  have e1 : (Lib.splitB ⟨#[44, 32]⟩ 0 (Lib.countB s ⟨#[44, 32]⟩) s).map (fun t : ByteArray => t.data.toList) = Lib.splitK [44, 32] 0 (Lib.count s.data.toList [44, 32]) s.data.toList := Lib.splitB_data ..
  have e3 := Lib.splitB_all ⟨#[44, 32]⟩ (by decide) 0 _ s rfl
  generalize Lib.splitB ⟨#[44, 32]⟩ 0 (Lib.countB s ⟨#[44, 32]⟩) s = ts at *
  refine ⟨ts, by rw [e3]; exact he, e1, fun k t ht => ?_, ?_, by rw [hw]; simp⟩
  · rw [hw]
    exact newcellA rfl (by simp [ht])
  · rw [hw]; exact (Below.refl _ _).alloc (Nat.le_refl _) _
set_option maxRecDepth 100000 in
set_option maxHeartbeats 3200000 in
theorem implRtm_any (s : ByteArray) (w : World) (hs : s.size ≤ 1048576) (hd : Dr w) (he : Er w) (hm : Mx w) (R : List Int) (b : Bool) (hR : TgR s R b) :
    Calls Tryd.prog 14 #[.string s] w fun e w' => ResT w.heap.size R b e w' ∧ Below w.heap.size w w' := by
  have HR := Lib.hid hR
  have HD := Lib.hid hd
  have HE := Lib.hid he
  have HM := Lib.hid hm
  clear hR hd he hm
  by_cases h91 : ∃ r, s.data.toList = 91 :: r
  · obtain ⟨r, hr⟩ := h91
    have HC1 := Lib.hid (cutP_hit s 91 r hr w)
    obtain ⟨u, hu⟩ : ∃ u : ByteArray, u = ⟨r.toArray⟩ := ⟨_, rfl⟩
    rw [← hu] at HC1
    have hud : u.data.toList = r := by subst hu; simp
    have hlr : s.data.toList.length = r.length + 1 := by rw [hr]; rfl
    rw [len_size] at hlr
    have hus : u.size ≤ 1048576 := by have := len_size u; rw [hud] at this; omega
    have HC2 := Lib.hid (cutS_any u w hus)
    rw [hud] at HC2
    cases hsf : Lib.hasSuffix r [93]
    · obtain ⟨rfl, rfl⟩ := HR.out.no (fun zs hz => by
        have h1 := hz.data
        rw [hr] at h1
        have h2 : r = inL zs ++ [93] := (List.cons.inj h1).2
        rw [h2] at hsf
        have : Lib.hasSuffix (inL zs ++ [93]) [93] = true := List.isSuffixOf_iff_suffix.2 ⟨inL zs, rfl⟩
        rw [this] at hsf; cases hsf)
      rw [hsf] at HC2
      obtain ⟨v, hv⟩ : ∃ v : ByteArray, v = ⟨(Lib.trimSuffix r [93]).toArray⟩ := ⟨_, rfl⟩
      rw [← hv] at HC2
      clear hr hu hud hlr hus hsf hv
      go_enter Tryd.func14, Tryd.ntmps14
      go_wp2_with fail
      refine HC1.out.mono ?_
      rintro e wz ⟨rfl, hw0⟩
      obtain rfl := hw0.symm
      clear hw0
      go_wp2_with fail
      refine HC2.out.mono ?_
      rintro e wz ⟨rfl, hw0⟩
      obtain rfl := hw0.symm
      clear hw0
      go_wp2_with fail
      go_ret2
      exact ⟨⟨none, 0, rfl, World.ownsRow_nil ..⟩, Below.refl _ _⟩
    · rw [hsf] at HC2
      obtain ⟨m, hmr⟩ : ∃ m, r = m ++ [93] := by
        obtain ⟨m, e⟩ := List.isSuffixOf_iff_suffix.1 hsf
        exact ⟨m, e.symm⟩
      have htr : Lib.trimSuffix r [93] = m := by
        unfold Lib.trimSuffix
        rw [hsf, if_pos rfl, hmr, List.length_append]
        simp
      rw [htr] at HC2
      obtain ⟨v, hv⟩ : ∃ v : ByteArray, v = ⟨m.toArray⟩ := ⟨_, rfl⟩
      rw [← hv] at HC2
      have hvd : v.data.toList = m := by subst hv; simp
      have hml : m.length ≤ 1048576 := by rw [hmr, List.length_append] at hlr; omega
      have hvs : v.size ≤ 1048576 := by have := len_size v; rw [hvd] at this; omega
      have HRp := Lib.hid (repl_any v w hvs HM.out)
      rw [hvd] at HRp
      obtain ⟨P, hP⟩ : ∃ P : ByteArray, P = ⟨(Lib.replace m [59, 32] [44, 32] 1).toArray⟩ := ⟨_, rfl⟩
      rw [← hP] at HRp
      have hPd : P.data.toList = Lib.replace m [59, 32] [44, 32] 1 := by subst hP; simp
      have hPl : P.size = m.length := by rw [← len_size, hPd, rep_len]
      have HSp := Lib.hid (fun W m => splitComma P W (by omega) m)
      rw [hPd] at HSp
      have hpl : ∀ p ∈ pcL m, p.length ≤ 1048576 := fun p hp => by
        have := splitK_le [44, 32] _ _ p hp
        rw [rep_len] at this; omega
      have hln : (pcL m).length ≤ 1048577 := by
        have := splitK_len [44, 32] (by simp) (Lib.count (Lib.replace m [59, 32] [44, 32] 1) [44, 32]) (Lib.replace m [59, 32] [44, 32] 1)
        rw [rep_len] at this
        show (Lib.splitK _ _ _ _).length ≤ _
        omega
      have hne : pcL m ≠ [] := splitK_ne _ _ _
      have hgd : ∀ zs, Gd s zs → AllI (fun _ => rdO) (pcL m) zs := fun zs hz => by
        have h1 := hz.data
        rw [hr] at h1
        have h2 : r = inL zs ++ [93] := (List.cons.inj h1).2
        rw [hmr] at h2
        rw [List.append_cancel_right h2]
        exact hz.pieces
      have HSp := Lib.hid (show ∀ W, Mx W → Calls Tryd.prog 61 #[.string P, .string ⟨#[44, 32]⟩] W fun e w' => ∃ ts : List ByteArray, e = .returned (.slice (some ⟨W.heap.size, 0, none⟩) ts.length ts.length) ∧ ts.map (fun t : ByteArray => t.data.toList) = pcL m ∧
        (∀ (k : Nat) t, ts[k]? = some t → w'.cell? ⟨W.heap.size, k, none⟩ = some (.string t)) ∧ Below W.heap.size W w' ∧ W.heap.size < w'.heap.size from HSp.out)
      have hse : s.data.toList ≠ [] := by rw [hr]; simp
      generalize pcL m = ls at *
      have HGd := Lib.hid hgd
      have HPl := Lib.hid hpl
      have HSe := Lib.hid hse
      have HNe := Lib.hid hne
      clear hr hu hud hlr hus hsf hmr htr hv hvd hml hvs hP hPd hPl hpl hgd hse hne
      go_enter Tryd.func14, Tryd.ntmps14
      go_wp2_with fail
      refine HC1.out.mono ?_
      rintro e wz ⟨rfl, hw0⟩
      obtain rfl := hw0.symm
      clear hw0
      go_wp2_with fail
      refine HC2.out.mono ?_
      rintro e wz ⟨rfl, hw0⟩
      obtain rfl := hw0.symm
      clear hw0
      go_wp2_with fail
      refine HRp.out.mono ?_
      rintro e w1 ⟨rfl, hb1⟩
      have HB1 := Lib.hid hb1
      clear hb1
      go_wp2_with fail
      refine (HSp.out w1 (HM.out.below HB1.out)).mono ?_
      rintro e w2 ⟨ts, rfl, hts, hcs, hb2, hg2⟩
      have hB2 := HB1.out.trans (hb2.mono HB1.out.size)
      have hn : ts.length = ls.length := by rw [← hts, List.length_map]
      have hrow : TRow w2 (some ⟨w1.heap.size, 0, none⟩) ts.length ts := ⟨rfl, by omega, fun k v hv => by
        rw [List.getElem?_map] at hv
        cases ht : ts[k]? with
        | none => rw [ht] at hv; cases hv
        | some t =>
          rw [ht] at hv
          injection hv with hv
          exact ⟨_, rfl, by rw [addr_zero, ← hv]; exact hcs k t ht⟩⟩
      have HRd := Lib.hid (readDecimals_any (some ⟨w1.heap.size, 0, none⟩) ts.length ts.length ts w2 hrow (fun t ht => by
        rw [← len_size]
        exact HPl.out _ (by rw [← hts]; exact List.mem_map.2 ⟨t, ht, rfl⟩)) (by
          rcases Nat.eq_zero_or_pos ts.length with h | h
          · exact absurd (List.eq_nil_of_length_eq_zero (hn.symm.trans h)) HNe.out
          · exact h) (by omega) (HD.out.below hB2) (HE.out.below hB2))
      rw [hts] at HRd
      have HB2 := Lib.hid hB2
      clear hts hcs hb2 hB2 hrow hn hg2
      go_wp2_with fail
      refine HRd.out.mono ?_
      rintro e w3 ⟨⟨us, ok, ⟨A, c, rfl, hown⟩, hok, hno⟩, hb3⟩
      have HO := Lib.hid hown
      have HB3 := Lib.hid (HB2.out.trans (hb3.mono HB2.out.size))
      clear hown hb3
      cases ok
      · obtain ⟨rfl, hn⟩ := hno rfl
        obtain ⟨rfl, rfl⟩ := HR.out.no (fun zs hz => hn zs (HGd.out zs hz))
        clear hok hno hn
        go_wp2_with fail
        go_ret2
        exact ⟨⟨none, 0, rfl, World.ownsRow_nil ..⟩, HB3.out⟩
      · have hA := hok rfl
        have huq : ∀ zs, Gd s zs → zs = us := fun zs hz => (HGd.out zs hz).uniq hA
        have hl : us.length ≤ 1048577 := by rw [hA.1]; exact hln
        have HTx := Lib.hid (implTtx_any A us.length c us w3 (IRow.of_own HO.out (by omega) (hA.rng (fun _ => rdO_rng))) (own_cap HO.out) (HD.out.below HB3.out))
        obtain ⟨T, hT⟩ : ∃ T : ByteArray, T = txS us := ⟨_, rfl⟩
        rw [← hT] at HTx
        by_cases hq : T = s
        · obtain ⟨rfl, rfl⟩ := HR.out.yes (zs := us) (by
            have hv : trmB us = true := by
              cases hv : trmB us
              · exfalso
                rw [hq, show txS us = ⟨#[]⟩ from if_neg (by rw [hv]; decide)] at hT
                exact HSe.out (by rw [hT])
              · rfl
            refine ⟨hv, ?_⟩
            rw [← hq, hT, show txS us = ⟨(txL us).toArray⟩ from if_pos hv, data_mk])
          have htl := tl_t hq
          clear hok hno hA huq hT hq
          go_wp2_with fail
          refine HTx.out.mono ?_
          rintro e w4 ⟨rfl, hb4⟩
          have HO4 := Lib.hid (own_below HO.out hb4)
          have HB4 := Lib.hid (HB3.out.trans (hb4.mono HB3.out.size))
          clear hb4
          go_wp2_with fail
          go_ret2
          exact ⟨⟨A, c, rfl, own_base HO4.out HB2.out.size⟩, HB4.out⟩
        · obtain ⟨rfl, rfl⟩ := HR.out.no (fun zs hz => hq (by
            rw [huq zs hz] at hz
            rw [hT, show txS us = ⟨(txL us).toArray⟩ from if_pos hz.1]
            exact str_ext (by rw [data_mk, hz.2])))
          have htl := tl_f hq
          clear hok hno hA huq hT hq
          go_wp2_with fail
          refine HTx.out.mono ?_
          rintro e w4 ⟨rfl, hb4⟩
          have HB4 := Lib.hid (HB3.out.trans (hb4.mono HB3.out.size))
          clear hb4
          go_wp2_with fail
          go_ret2
          exact ⟨⟨none, 0, rfl, World.ownsRow_nil ..⟩, HB4.out⟩
  · obtain ⟨rfl, rfl⟩ := HR.out.no (fun zs hz => h91 ⟨_, hz.data⟩)
    have HC1 := Lib.hid (cutP_miss s 91 h91 w)
    have HC2 := Lib.hid (cutS_any s w hs)
    obtain ⟨v, q, hvq⟩ : ∃ (v : ByteArray) (q : Bool), v = ⟨(Lib.trimSuffix s.data.toList [93]).toArray⟩ ∧ q = Lib.hasSuffix s.data.toList [93] := ⟨_, _, rfl, rfl⟩
    rw [← hvq.1, ← hvq.2] at HC2
    clear hvq h91
    go_enter Tryd.func14, Tryd.ntmps14
    go_wp2_with fail
    refine HC1.out.mono ?_
    rintro e wz ⟨rfl, hw0⟩
    obtain rfl := hw0.symm
    clear hw0
    go_wp2_with fail
    refine HC2.out.mono ?_
    rintro e wz ⟨rfl, hw0⟩
    obtain rfl := hw0.symm
    clear hw0
    go_wp2_with fail
    go_ret2
    exact ⟨⟨none, 0, rfl, World.ownsRow_nil ..⟩, Below.refl _ _⟩
end Go.Proofs.YtnikogholldcmaaDoor
