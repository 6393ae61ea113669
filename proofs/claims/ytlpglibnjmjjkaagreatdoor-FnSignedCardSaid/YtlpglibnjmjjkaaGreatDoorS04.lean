/-
  Three drawn fractions: contract of the reference's A2Fractions.
  Copies of lists, and the short form of terms: contracts of the program's and of the reference's functions.
  Drawn terms: contracts of the reference's l03Draw and A2Terms.
  Draws of terms with signs: contracts of the reference's draws.
  Drawn terms with signs: contracts of the reference's l04Draw and l04Bent.
  Conditions: those of the law's own text, and that the package-level variables hold what the program's text lays in them.
-/
import Derived.Test.YtlpglibnjmjjkaaGreatDoorProg
import Derived.Test.YtlpglibnjmjjkaaGreatDoorS01
import Derived.Test.YtlpglibnjmjjkaaGreatDoorS02
import Derived.Test.YtlpglibnjmjjkaaGreatDoorS03
import Derived.Handy
import Derived.BigQuiet
import Derived.RegionTactic
import Derived.BigRegion
import Derived.Deep.QuietTactic
import Derived.Deep.RegionHeld3
import Derived.Deep.DeepCutAuto
import Derived.Lib.SliceRun
import Derived.Deep.AppendLies
import Derived.Deep.DrawnRows
namespace Go.Proofs.YtlpglibnjmjjkaaGreatDoor
open Go.RowKit
set_option linter.unusedVariables false
set_option linter.unusedSimpArgs false
attribute [local go_sem ↓] Go.wp_at_zero Go.wp_at_succ

/-- Two cells of a block that lies apart from the source. -/
def Pr (w : World) (b : Nat) (x y : Int) : Prop := w.cell? ⟨b, 0, none⟩ = some (.int .i64 x) ∧ w.cell? ⟨b, 1, none⟩ = some (.int .i64 y) ∧ w.frozen? ⟨b, 0, none⟩ = false ∧ w.frozen? ⟨b, 1, none⟩ = false
theorem Pr.lt {w : World} {b : Nat} {x y : Int} (h : Pr w b x y) : b < w.heap.size := World.block_lt_of_cell? w _ h.1
theorem Pr.kg {g : Nat} {w w1 : World} {b : Nat} {x y : Int} (h : Pr w b x y) (hk : Kg g w w1) (hb : b ≠ g) : Pr w1 b x y :=
  ⟨(hk.cell (p := ⟨b, 0, none⟩) h.lt hb).trans h.1, (hk.cell (p := ⟨b, 1, none⟩) h.lt hb).trans h.2.1, (hk.frozen (p := ⟨b, 0, none⟩) h.lt hb).trans h.2.2.1, (hk.frozen (p := ⟨b, 1, none⟩) h.lt hb).trans h.2.2.2⟩
theorem Pr.below {w w1 : World} {b : Nat} {x y : Int} (h : Pr w b x y) (hb : Below w.heap.size w w1) : Pr w1 b x y :=
  ⟨(hb.cell (p := ⟨b, 0, none⟩) h.lt).trans h.1, (hb.cell (p := ⟨b, 1, none⟩) h.lt).trans h.2.1, (hb.frozen (p := ⟨b, 0, none⟩) h.lt).trans h.2.2.1, (hb.frozen (p := ⟨b, 1, none⟩) h.lt).trans h.2.2.2⟩
theorem Pr.drew {w : World} {b : Nat} {x y : Int} (h : Pr w b x y) : Pr w.drew b x y := h
theorem Pr.new (w : World) (x y : Int) (t : TypeId) : Pr (w.alloc (.cells #[.int .i64 x, .int .i64 y] t)) w.heap.size x y := ⟨newcellA rfl rfl, newcellA rfl rfl, by simp, by simp⟩
theorem St.drew {g : Nat} {A : Option Addr} {n cap K : Nat} {w0 w : World} (h : St g A n cap K w0 w) : St g A n cap K w0 w.drew := ⟨h.1, h.2.drew⟩
theorem St.alloc {g : Nat} {A : Option Addr} {n cap K : Nat} {w0 w : World} (h : St g A n cap K w0 w) (o : Obj) : St g A n cap K w0 (w.alloc o) := h.below ((Below.refl _ _).alloc (Nat.le_refl _) o)

theorem s4_set {W : World} {b1 b2 b : Nat} {x y z u : Value} (h : W.cell? ⟨b1, 0, none⟩ = some x ∧ W.cell? ⟨b1, 1, none⟩ = some y ∧ W.cell? ⟨b2, 0, none⟩ = some z ∧ W.cell? ⟨b2, 1, none⟩ = some u) (h1 : b < b1) (h2 : b < b2) (s t : Value) :
    ((W.setCell ⟨b, 0, none⟩ s).setCell ⟨b, 1, none⟩ t).cell? ⟨b1, 0, none⟩ = some x ∧ ((W.setCell ⟨b, 0, none⟩ s).setCell ⟨b, 1, none⟩ t).cell? ⟨b1, 1, none⟩ = some y ∧ ((W.setCell ⟨b, 0, none⟩ s).setCell ⟨b, 1, none⟩ t).cell? ⟨b2, 0, none⟩ = some z ∧ ((W.setCell ⟨b, 0, none⟩ s).setCell ⟨b, 1, none⟩ t).cell? ⟨b2, 1, none⟩ = some u := by
  have e : ∀ c, b < c → ∀ j k, (⟨b, j, none⟩ : Addr) ≠ ⟨c, k, none⟩ := fun c hc j k e => by injection e with e; omega
  exact ⟨setO (e _ h1 _ _) (setO (e _ h1 _ _) h.1), setO (e _ h1 _ _) (setO (e _ h1 _ _) h.2.1), setO (e _ h2 _ _) (setO (e _ h2 _ _) h.2.2.1), setO (e _ h2 _ _) (setO (e _ h2 _ _) h.2.2.2)⟩

theorem s6 {W : World} {b : Nat} {u0 u1 u2 u3 u4 u5 v0 v1 v2 v3 v4 v5 : Value} (a0 : W.cell? ⟨b, 0, none⟩ = some u0) (a1 : W.cell? ⟨b, 1, none⟩ = some u1) (a2 : W.cell? ⟨b + 1, 0, none⟩ = some u2) (a3 : W.cell? ⟨b + 1, 1, none⟩ = some u3)
    (a4 : W.cell? ⟨b + 1 + 1, 0, none⟩ = some u4) (a5 : W.cell? ⟨b + 1 + 1, 1, none⟩ = some u5) :
    let X := (((((W.setCell ⟨b, 0, none⟩ v0).setCell ⟨b, 1, none⟩ v1).setCell ⟨b + 1, 0, none⟩ v2).setCell ⟨b + 1, 1, none⟩ v3).setCell ⟨b + 1 + 1, 0, none⟩ v4).setCell ⟨b + 1 + 1, 1, none⟩ v5
    X.cell? ⟨b, 0, none⟩ = some v0 ∧ X.cell? ⟨b, 1, none⟩ = some v1 ∧ X.cell? ⟨b + 1, 0, none⟩ = some v2 ∧ X.cell? ⟨b + 1, 1, none⟩ = some v3 ∧ X.cell? ⟨b + 1 + 1, 0, none⟩ = some v4 ∧ X.cell? ⟨b + 1 + 1, 1, none⟩ = some v5 := by
  intro X
  have e : ∀ c d j k, c ≠ d ∨ j ≠ k → (⟨c, j, none⟩ : Addr) ≠ ⟨d, k, none⟩ := fun c d j k h e => by injection e with e1 e2; omega
  refine ⟨?_, ?_, ?_, ?_, ?_, ?_⟩
  · exact setO (e _ _ _ _ (by omega)) (setO (e _ _ _ _ (by omega)) (setO (e _ _ _ _ (by omega)) (setO (e _ _ _ _ (by omega)) (setO (e _ _ _ _ (by omega)) (setS a0)))))
  · exact setO (e _ _ _ _ (by omega)) (setO (e _ _ _ _ (by omega)) (setO (e _ _ _ _ (by omega)) (setO (e _ _ _ _ (by omega)) (setS (setO (e _ _ _ _ (by omega)) a1)))))
  · exact setO (e _ _ _ _ (by omega)) (setO (e _ _ _ _ (by omega)) (setO (e _ _ _ _ (by omega)) (setS (setO (e _ _ _ _ (by omega)) (setO (e _ _ _ _ (by omega)) a2)))))
  · exact setO (e _ _ _ _ (by omega)) (setO (e _ _ _ _ (by omega)) (setS (setO (e _ _ _ _ (by omega)) (setO (e _ _ _ _ (by omega)) (setO (e _ _ _ _ (by omega)) a3)))))
  · exact setO (e _ _ _ _ (by omega)) (setS (setO (e _ _ _ _ (by omega)) (setO (e _ _ _ _ (by omega)) (setO (e _ _ _ _ (by omega)) (setO (e _ _ _ _ (by omega)) a4)))))
  · exact setS (setO (e _ _ _ _ (by omega)) (setO (e _ _ _ _ (by omega)) (setO (e _ _ _ _ (by omega)) (setO (e _ _ _ _ (by omega)) (setO (e _ _ _ _ (by omega)) a5)))))

set_option maxHeartbeats 1600000 in
theorem a2Fractions_any (A : Option Addr) (n cap : Nat) (xs : List Int) (w : World) (hx : BRow w A n xs) :
    Calls Tryz.prog 6 #[.slice A n cap] w fun e w' => (∃ x1 y1 x2 y2 x3 y3 : Int, e = .returned (.tuple #[.agg #[.int .i64 x1, .int .i64 y1], .agg #[.int .i64 x2, .int .i64 y2], .agg #[.int .i64 x3, .int .i64 y3]]) ∧ DrwF x1 y1 ∧ DrwF x2 y2 ∧ DrwF x3 y3) ∧ Below w.heap.size w w' := by
  obtain ⟨w0, hw0⟩ : ∃ w0, w0 = ((w.alloc (.cells #[.int .i64 0, .int .i64 0] 25)).alloc (.cells #[.int .i64 0, .int .i64 0] 25)).alloc (.cells #[.int .i64 0, .int .i64 0] 25) := ⟨_, rfl⟩
  have hB0 : Below w.heap.size w w0 := by rw [hw0]; exact (((Below.refl _ _).alloc (Nat.le_refl _) _).alloc (by simp) _).alloc (by simp; omega) _
  have hS0 : w0.heap.size = w.heap.size + 3 := by rw [hw0]; simp
  have hP1 : Pr w0 w.heap.size 0 0 := by rw [hw0]; exact ((Pr.new w 0 0 _).below ((Below.refl _ _).alloc (Nat.le_refl _) _)).below ((Below.refl _ _).alloc (Nat.le_refl _) _)
  have hP2 : Pr w0 (w.heap.size + 1) 0 0 := by
    have h := ((Pr.new (w.alloc (.cells #[.int .i64 0, .int .i64 0] 25)) 0 0 25).below ((Below.refl _ _).alloc (Nat.le_refl _) (.cells #[.int .i64 0, .int .i64 0] 25)))
    rw [hw0]; simpa using h
  have hP3 : Pr w0 (w.heap.size + 1 + 1) 0 0 := by
    have h := Pr.new ((w.alloc (.cells #[.int .i64 0, .int .i64 0] 25)).alloc (.cells #[.int .i64 0, .int .i64 0] 25)) 0 0 25
    rw [hw0]; simpa using h
  have HX := Lib.hid (hx.below hB0)
  have hl0 : w.heap.size + 2 < w0.heap.size := by omega
  have HW := Lib.hid hw0.symm
  have HS := Lib.hid hS0
  have HP1 := Lib.hid hP1
  have HP2 := Lib.hid hP2
  have HP3 := Lib.hid hP3
  clear hw0 hS0 hP1 hP2 hP3 hx
  go_enter Tryz.func6, Tryz.ntmps6
  go_wp2_with fail
  rw [HW.out]
  refine (l00From_any A n cap w0).mono ?_
  rintro e w1 ⟨rfl, hs1⟩
  have hb1 : Below w0.heap.size w0 w1 := hs1.2
  have H1 := Lib.hid hs1
  have P11 := Lib.hid (HP1.out.below hb1)
  have P21 := Lib.hid (HP2.out.below hb1)
  have P31 := Lib.hid (HP3.out.below hb1)
  clear hs1 hb1
  go_wp2_with fail
  refine (l02Draw_any w0.heap.size A n cap 0 xs w0 w1 H1.out HX.out (by omega) (Nat.le_refl _)).mono ?_
  rintro e w2 ⟨⟨x1, y1, rfl, hd1⟩, hs2, hk2⟩
  have D1 := Lib.hid hd1
  have H2 := Lib.hid (hs2.alloc (.cells #[.int .i64 x1, .int .i64 y1] 25))
  have hA2 := (Kg.refl w0.heap.size w2).below ((Below.refl _ _).alloc (Nat.le_refl _) (.cells #[.int .i64 x1, .int .i64 y1] 25))
  have P12 := Lib.hid ((P11.out.kg hk2 (by have := HS.out; omega)).kg hA2 (by have := HS.out; omega))
  have P22 := Lib.hid ((P21.out.kg hk2 (by have := HS.out; omega)).kg hA2 (by have := HS.out; omega))
  have P32 := Lib.hid ((P31.out.kg hk2 (by have := HS.out; omega)).kg hA2 (by have := HS.out; omega))
  have Q12 := Lib.hid (Pr.new w2 x1 y1 25)
  have hl2 : w0.heap.size < w2.heap.size := hs2.lt
  clear hd1 hs2 hk2 hA2 H1 P11 P21 P31 HP1 HP2 HP3
  go_wp2_with fail
  refine (l02Draw_any w0.heap.size A n cap 8 xs w0 _ H2.out HX.out (by omega) (Nat.le_refl _)).mono ?_
  rintro e w3 ⟨⟨x2, y2, rfl, hd2⟩, hs3, hk3⟩
  have D2 := Lib.hid hd2
  have H3 := Lib.hid (hs3.alloc (.cells #[.int .i64 x2, .int .i64 y2] 25))
  have hA3 := (Kg.refl w0.heap.size w3).below ((Below.refl _ _).alloc (Nat.le_refl _) (.cells #[.int .i64 x2, .int .i64 y2] 25))
  have P13 := Lib.hid ((P12.out.kg hk3 (by have := HS.out; omega)).kg hA3 (by have := HS.out; omega))
  have P23 := Lib.hid ((P22.out.kg hk3 (by have := HS.out; omega)).kg hA3 (by have := HS.out; omega))
  have P33 := Lib.hid ((P32.out.kg hk3 (by have := HS.out; omega)).kg hA3 (by have := HS.out; omega))
  have Q13 := Lib.hid ((Q12.out.kg hk3 (by omega)).kg hA3 (by omega))
  have Q23 := Lib.hid (Pr.new w3 x2 y2 25)
  have hl3 : w2.heap.size < w3.heap.size := by have := hk3.1; simp at this; omega
  clear hd2 hs3 hk3 hA3 H2 P12 P22 P32 Q12
  go_wp2_with fail
  have hl4 : w3.heap.size < (w3.alloc (.cells #[.int .i64 x2, .int .i64 y2] 25)).heap.size := by simp
  generalize w3.alloc (.cells #[.int .i64 x2, .int .i64 y2] 25) = wq at *
  replace P13 := Lib.hid P13.out.drew
  replace P23 := Lib.hid P23.out.drew
  replace P33 := Lib.hid P33.out.drew
  replace Q13 := Lib.hid Q13.out.drew
  replace Q23 := Lib.hid Q23.out.drew
  replace H3 := Lib.hid H3.out.drew
  have R13 := Lib.hid (show wq.cell? ⟨w2.heap.size, 0, none⟩ = some (.int .i64 x1) ∧ wq.cell? ⟨w2.heap.size, 1, none⟩ = some (.int .i64 y1) ∧ wq.cell? ⟨w3.heap.size, 0, none⟩ = some (.int .i64 x2) ∧ wq.cell? ⟨w3.heap.size, 1, none⟩ = some (.int .i64 y2) from ⟨Q13.out.1, Q13.out.2.1, Q23.out.1, Q23.out.2.1⟩)
  go_region_held3 (fun w' => w'.cell? ⟨w2.heap.size, 0, none⟩ = some (.int .i64 x1) ∧ w'.cell? ⟨w2.heap.size, 1, none⟩ = some (.int .i64 y1) ∧ w'.cell? ⟨w3.heap.size, 0, none⟩ = some (.int .i64 x2) ∧ w'.cell? ⟨w3.heap.size, 1, none⟩ = some (.int .i64 y2))
    (first | exact s4_set (by assumption) (by omega) (by omega) _ _ | exact ⟨Q14.out.1, Q14.out.2.1, Q24.out.1, Q24.out.2.1⟩ | exact ⟨Q13.out.1, Q13.out.2.1, Q23.out.1, Q23.out.2.1⟩ | exact R13.out)
    (first | (go_at_call 40; refine (l02Draw_any w0.heap.size A n cap 16 xs w0 _ H3.out HX.out (by omega) (Nat.le_refl _)).mono ?_; rintro e w4 ⟨⟨x3, y3, rfl, hd3⟩, hs4, hk4⟩; have D3 := Lib.hid hd3; have HB4 := Lib.hid hs4.2; have Q14 := Lib.hid (Q13.out.kg hk4 (by omega)); have Q24 := Lib.hid (Q23.out.kg hk4 (by omega)); obtain ⟨a0, a1, g0, g1⟩ := P13.out.kg hk4 (by omega); obtain ⟨a2, a3, g2, g3⟩ := P23.out.kg hk4 (by omega); obtain ⟨a4, a5, g4, g5⟩ := P33.out.kg hk4 (by omega); clear hd3 hs4 hk4))
  have hT := s6 (b := w.heap.size) (v0 := .int .i64 x1) (v1 := .int .i64 y1) (v2 := .int .i64 x2) (v3 := .int .i64 y2) (v4 := .int .i64 x3) (v5 := .int .i64 y3) a0 a1 a2 a3 a4 a5
  have hBf : Below w.heap.size w ((((((w4.setCell ⟨w.heap.size, 0, none⟩ (.int .i64 x1)).setCell ⟨w.heap.size, 1, none⟩ (.int .i64 y1)).setCell ⟨w.heap.size + 1, 0, none⟩ (.int .i64 x2)).setCell ⟨w.heap.size + 1, 1, none⟩ (.int .i64 y2)).setCell ⟨w.heap.size + 1 + 1, 0, none⟩ (.int .i64 x3)).setCell ⟨w.heap.size + 1 + 1, 1, none⟩ (.int .i64 y3)) := ((((((hB0.trans (HB4.out.mono (by omega))).setCell (p := ⟨w.heap.size, 0, none⟩) (Nat.le_refl _) _).setCell (p := ⟨w.heap.size, 1, none⟩) (Nat.le_refl _) _).setCell (p := ⟨w.heap.size + 1, 0, none⟩) (by simp) _).setCell (p := ⟨w.heap.size + 1, 1, none⟩) (by simp) _).setCell (p := ⟨w.heap.size + 1 + 1, 0, none⟩) (by simp; omega) _).setCell (p := ⟨w.heap.size + 1 + 1, 1, none⟩) (by simp; omega) _
  generalize ((((((w4.setCell ⟨w.heap.size, 0, none⟩ (.int .i64 x1)).setCell ⟨w.heap.size, 1, none⟩ (.int .i64 y1)).setCell ⟨w.heap.size + 1, 0, none⟩ (.int .i64 x2)).setCell ⟨w.heap.size + 1, 1, none⟩ (.int .i64 y2)).setCell ⟨w.heap.size + 1 + 1, 0, none⟩ (.int .i64 x3)).setCell ⟨w.heap.size + 1 + 1, 1, none⟩ (.int .i64 y3)) = wf at hT hBf ⊢
  obtain ⟨t0, t1, t2, t3, t4, t5⟩ := hT
  clear a0 a1 a2 a3 a4 a5 g0 g1 g2 g3 g4 g5
  go_wp2_with fail
  exact bodyPost_ret (v := .tuple #[.agg #[.int .i64 x1, .int .i64 y1], .agg #[.int .i64 x2, .int .i64 y2], .agg #[.int .i64 x3, .int .i64 y3]]) (by simp [results, Tryz.results6, go_sem, t0, t1, t2, t3, t4, t5]) rfl ⟨⟨x1, y1, x2, y2, x3, y3, rfl, D1.out, D2.out, D3.out⟩, hBf⟩
end Go.Proofs.YtlpglibnjmjjkaaGreatDoor
namespace Go.Proofs.YtlpglibnjmjjkaaGreatDoor
open Go.RowKit
set_option linter.unusedVariables false
attribute [local go_sem ↓] Go.wp_at_zero Go.wp_at_succ

/-- A slice of n numbers, the call's own. -/
def RetN (base n : Nat) (zs : List Int) (e : Ending) (w : World) : Prop :=
  ∃ A c, e = .returned (.slice A n c) ∧ w.ownsRow base 2 1 (.slice A n c) n (zs.map (Value.int .i64))

set_option maxRecDepth 100000 in
set_option maxHeartbeats 800000 in
theorem clone_any (A : Option Addr) (n cap : Nat) (zs : List Int) (w : World) (h : IRow w A n zs) (hn : 1 ≤ n) (hn2 : n ≤ 1048576) :
    Calls Tryz.prog 90 #[.slice A n cap] w fun e w' => RetN w.heap.size n zs e w' ∧ Below w.heap.size w w' := by
  obtain ⟨i0, hi, hz0, hz1, hz2⟩ := info_parts info_i64
  have hq := fun (w : World) a n c => Lib.run_eql_slice_nil (P := Tryz.prog) w 28 2 a n c 0 0 Tryz.underlying28
  obtain ⟨ad, z, rfl, _⟩ := h.at_ (k := 0) (by omega)
  have hown0 : (w.alloc (.cells #[] 2)).ownsRow w.heap.size 2 1 (.slice (some ⟨w.heap.size, 0, none⟩) 0 0) 0 [] := World.ownsRow_made w #[] 0 (Nat.le_refl _) (by decide) rfl
  have HO := Lib.hid hown0
  have HL := Lib.hid h.len
  have HW := Lib.hid (h.alloc (.cells #[] 2))
  clear hown0 h
  go_enter Tryz.func90, Tryz.ntmps90
  go_wp2_with (first | (at_builtin; refine wpList_append_lies _ rfl (.tmp 5) (.tmp 6) 28 rfl w.heap.size 2 i0 (.int .i64 0) 1 8 Tryz.underlying28 hi hz0 hz1 hz2 rfl (by decide) _ 0 [] (by rfl) HO.out ad n cap (zs.map (Value.int .i64)) (by rfl) ?len ?cells ?one (by omega) (by show 0 + n ≤ 9223372036854775807; omega) (by omega) (by simp) (w.heap.size + 1) (by simp) ?_; rotate_left; rotate_left; rotate_left; intro g cap1 w1 hown1 hgrow hat hlt1))
  case len => rw [List.length_map, HL.out, Nat.mul_one]
  case cells =>
    intro j u hu
    obtain ⟨ad', e, hc⟩ := HW.out.2.2.2 j u hu
    injection e with e
    subst e
    exact hc
  case one =>
    intro u hu
    obtain ⟨_, _, rfl⟩ := List.mem_map.1 hu
    rfl
  go_ret
  simp only [Nat.zero_add, List.nil_append] at hown1
  exact ⟨⟨_, _, rfl, hown1⟩, ((Below.refl _ _).alloc (Nat.le_refl _) _).grown hgrow (by simp) (fun k hk => by simp [Value.ownBlock] at hk; omega)⟩

/-- The last of several terms is 1. -/
def shB (zs : List Int) : Bool := decide (1 < zs.length ∧ zs[zs.length - 1]? = some 1)
/-- Terms with the same value of which the last is not 1, unless it is the only one. -/
def shL (zs : List Int) : List Int := if shB zs = true then (zs.take (zs.length - 1)).set (zs.length - 2) (zs.getD (zs.length - 2) 0 + 1) else zs
theorem shL_f {zs : List Int} (h : ¬ (1 < zs.length ∧ zs[zs.length - 1]? = some 1)) : shL zs = zs := if_neg (by unfold shB; simpa using h)
theorem shL_t {zs : List Int} {n : Nat} {y : Int} (hl : zs.length = n) (hn : 2 ≤ n) (h : zs[n - 1]? = some 1) (hy : zs[n - 2]? = some y) : shL zs = (zs.take (n - 1)).set (n - 2) (y + 1) := by
  have e : zs.getD (n - 2) 0 = y := by rw [List.getD_eq_getElem?_getD, hy]; rfl
  unfold shL
  rw [if_pos (by unfold shB; rw [hl]; exact decide_eq_true ⟨by omega, h⟩), hl, e]
theorem shL_len (zs : List Int) : (shL zs).length ≤ zs.length := by
  unfold shL
  split
  · rw [List.length_set, List.length_take]; omega
  · exact Nat.le_refl _

theorem take_row {w : World} {A : Option Addr} {n : Nat} {zs : List Int} (h : IRow w A n zs) (k : Nat) (hk : k ≤ n) : IRow w A k (zs.take k) :=
  ⟨by rw [List.length_take, h.1]; omega, by have := h.2.1; omega, fun z hz => h.2.2.1 z (List.mem_of_mem_take hz), by have := h.2.2.2.take_ k; rwa [← List.map_take] at this⟩

set_option maxRecDepth 100000 in
set_option maxHeartbeats 1600000 in
theorem shortForm_any (A : Option Addr) (n cap : Nat) (zs : List Int) (w : World) (h : IRow w A n zs) (hcap : n ≤ cap) (hn : 1 ≤ n) (hn2 : n ≤ 1048576) (hzb : ∀ z ∈ zs, -2000000000 ≤ z ∧ z ≤ 2000000000) :
    Calls Tryz.prog 45 #[.slice A n cap] w fun e w' => RetN w.heap.size (shL zs).length (shL zs) e w' ∧ Below w.heap.size w w' := by
  have hl := h.len
  rcases (by omega : n = 1 ∨ 2 ≤ n) with h1 | h2
  · subst h1
    have HC := Lib.hid (clone_any A 1 cap zs w h (by omega) hn2)
    rw [shL_f (by rw [hl]; omega), hl]
    clear h hl
    go_enter Tryz.func45, Tryz.ntmps45
    go_wp2_with fail
    refine HC.out.mono ?_
    rintro e w1 ⟨⟨A', c', rfl, ho⟩, hb⟩
    have HO := Lib.hid ho
    clear ho HC
    go_wp2_with fail
    go_ret
    exact ⟨⟨_, _, rfl, HO.out⟩, hb⟩
  · obtain ⟨ad, z, rfl, hz, z1, z2, hc⟩ := h.at_ (k := n - 1) (by omega)
    by_cases hz1 : z = 1
    · subst hz1
      obtain ⟨ad', y, e, hy, y1, y2, hcy⟩ := h.at_ (k := n - 2) (by omega)
      injection e with e
      subst e
      obtain ⟨b1, b2⟩ := hzb y (List.mem_of_getElem? hy)
      have hty : (zs.take (n - 1))[n - 2]? = some y := by rw [List.getElem?_take, if_pos (by omega)]; exact hy
      have HC := Lib.hid (clone_any (some ad) (n - 1) cap (zs.take (n - 1)) w (take_row h (n - 1) (by omega)) (by omega) (by omega))
      have hlen : (shL zs).length = n - 1 := by rw [shL_t hl h2 hz hy, List.length_set, List.length_take, hl]; omega
      rw [hlen, shL_t hl h2 hz hy]
      have HY := Lib.hid hty
      clear h hl hz hy hty hcy hlen hzb
      go_enter Tryz.func45, Tryz.ntmps45
      go_wp2_with fail
      refine HC.out.mono ?_
      rintro e w1 ⟨⟨A', c', rfl, ho⟩, hb⟩
      obtain ⟨g, rfl, hg1, hg2⟩ := own_some ho (by omega)
      have hcell := own_cellI ho HY.out
      have hfr := ho.frozenAt (n - 2)
      have HS := Lib.hid (own_setI ho (n - 2) (y + 1))
      clear ho HC
      go_wp2_with fail
      go_ret
      exact ⟨⟨_, _, rfl, HS.out⟩, hb.setCell (p := ⟨g, n - 2, none⟩) hg1 _⟩
    · have HC := Lib.hid (clone_any (some ad) n cap zs w h (by omega) hn2)
      have hne : (z == 1) = false := by rw [beq_eq_false_iff_ne]; exact hz1
      rw [shL_f (by rintro ⟨_, e⟩; rw [hl, hz] at e; injection e with e; exact hz1 e), hl]
      clear h hl hz hz1 hzb
      go_enter Tryz.func45, Tryz.ntmps45
      go_wp2_with fail
      refine HC.out.mono ?_
      rintro e w1 ⟨⟨A', c', rfl, ho⟩, hb⟩
      have HO := Lib.hid ho
      clear ho HC
      go_wp2_with fail
      go_ret
      exact ⟨⟨_, _, rfl, HO.out⟩, hb⟩
end Go.Proofs.YtlpglibnjmjjkaaGreatDoor
namespace Go.Proofs.YtlpglibnjmjjkaaGreatDoor
open Go.RowKit
set_option linter.unusedVariables false
set_option linter.unusedSimpArgs false
attribute [local go_sem ↓] Go.wp_at_zero Go.wp_at_succ

theorem own_kg {g : Nat} {w w' : World} {base e size n : Nat} {v : Value} {xs : List Value} (h : w.ownsRow base e size v n xs) (hk : Kg g w w') (hg : g < base) : w'.ownsRow base e size v n xs := by
  refine ⟨h.1, ?_⟩
  rcases h.2 with hn | ⟨b, cap, cur, rfl, hbb, hgg, rest⟩
  · exact .inl hn
  · refine .inr ⟨b, cap, cur, rfl, hbb, ?_, rest⟩
    rw [hk.2 b (Array.getElem?_eq_some_iff.1 hgg).1 (by omega)]
    exact hgg
/-- Drawn terms. -/
def DrwT (fs : List Int) : Prop := ∀ (j : Nat) z, fs[j]? = some z → (if j = 0 then -10 else 1) ≤ z ∧ z ≤ 60
theorem DrwT.one {z : Int} (h1 : -10 ≤ z) (h2 : z ≤ 60) : DrwT [z] := fun j y h => by
  cases j with
  | zero => simp at h; subst h; simp; omega
  | succ j => cases h
theorem DrwT.app {fs : List Int} {z : Int} (h : DrwT fs) (hl : 1 ≤ fs.length) (h1 : 1 ≤ z) (h2 : z ≤ 60) : DrwT (fs ++ [z]) := fun j y hy => by
  rw [List.getElem?_append] at hy
  split at hy
  · exact h j y hy
  · rename_i hj
    have : y = z := by
      cases hk : j - fs.length with
      | zero => rw [hk] at hy; simp at hy; exact hy.symm
      | succ i => rw [hk] at hy; simp at hy
    subst this
    rw [if_neg (by omega)]; omega
theorem St.grown {g : Nat} {A : Option Addr} {n cap K : Nat} {w0 w w1 : World} {row : Option Nat} (h : St g A n cap K w0 w) (hg : w.grownBy w1 row) (hr : row ≠ some g) (hB : ∀ k, row = some k → w0.heap.size ≤ k) : St g A n cap K w0 w1 := by
  have hl := h.lt
  obtain ⟨⟨k, h1, c0, c1, f1, f2, s, s0, s1, c2⟩, h3⟩ := h
  have e : w1.heap[g]? = w.heap[g]? := hg.block g hl (fun e => hr e.symm)
  have ec : ∀ o, w1.cell? ⟨g, o, none⟩ = w.cell? ⟨g, o, none⟩ := fun o => World.cell?_of_block (w := w) e
  have ef : ∀ o, w1.frozen? ⟨g, o, none⟩ = w.frozen? ⟨g, o, none⟩ := fun o => World.frozen?_of_block (w := w) e
  exact ⟨⟨k, h1, (ec 0).trans c0, (ec 1).trans c1, (ef 1).trans f1, (ef 2).trans f2, s, s0, s1, (ec 2).trans c2⟩, h3.grown hg h3.size hB⟩
end Go.Proofs.YtlpglibnjmjjkaaGreatDoor
namespace Go.Proofs.YtlpglibnjmjjkaaGreatDoor
open Go.RowKit
set_option linter.unusedVariables false
set_option linter.unusedSimpArgs false
attribute [local go_sem ↓] Go.wp_at_zero Go.wp_at_succ

theorem make_ok4 {num den : Int} (h1 : -400 ≤ num) (h2 : num ≤ 400) (h3 : 1 ≤ den) (h4 : den ≤ 400) :
    vfB (num.tdiv (Int.gcd num den : Nat)) (den.tdiv (Int.gcd num den : Nat)) = true ∧ -400 ≤ num.tdiv (Int.gcd num den : Nat) ∧ num.tdiv (Int.gcd num den : Nat) ≤ 400 ∧ den.tdiv (Int.gcd num den : Nat) ≤ 400 := by
  have hg : 0 < Int.gcd num den := gcd_pos (a := num) (.inr (show 0 < den by omega))
  have e1 : num.tdiv (Int.gcd num den : Nat) = num / (Int.gcd num den : Nat) := Int.tdiv_eq_ediv_of_dvd (Int.gcd_dvd_left ..)
  have e2 : den.tdiv (Int.gcd num den : Nat) = den / (Int.gcd num den : Nat) := Int.tdiv_eq_ediv_of_dvd (Int.gcd_dvd_right ..)
  have hc : Int.gcd (num / (Int.gcd num den : Nat)) (den / (Int.gcd num den : Nat)) = 1 := Int.gcd_ediv_gcd_ediv_gcd hg
  have b1 := tdiv_bd num (Int.gcd num den : Nat)
  have b2 := tdiv_bd den (Int.gcd num den : Nat)
  have hd : den / (Int.gcd num den : Nat) * (Int.gcd num den : Nat) = den := Int.ediv_mul_cancel (Int.gcd_dvd_right ..)
  have hp : 1 ≤ den / (Int.gcd num den : Nat) := by
    rcases Int.lt_or_le (den / (Int.gcd num den : Nat)) 1 with hl | hl
    · exfalso
      have : den / (Int.gcd num den : Nat) * (Int.gcd num den : Nat) ≤ 0 * (Int.gcd num den : Nat) := Int.mul_le_mul_of_nonneg_right (by omega) (by omega)
      omega
    · exact hl
  rw [e1, e2] at *
  refine ⟨vfB_iff.2 ⟨hp, by omega, by omega, by omega, hc⟩, by omega, by omega, by omega⟩
/-- A drawn fraction. -/
def DrwG (x y : Int) : Prop := vfB x y = true ∧ -400 ≤ x ∧ x ≤ 400 ∧ y ≤ 400
set_option maxHeartbeats 1600000 in
theorem l02Draw_200 (g : Nat) (A : Option Addr) (n cap K : Nat) (xs : List Int) (w0 w : World) (h : St g A n cap K w0 w) (hx : BRow w0 A n xs) (hk : K ≤ 800) (hg : w0.heap.size ≤ g) :
    Calls Tryz.prog 40 #[.pointer (some ⟨g, 0, none⟩), .int .i64 200] w fun e w' => (∃ x y : Int, e = .returned (.agg #[.int .i64 x, .int .i64 y]) ∧ DrwG x y) ∧ St g A n cap (K + 8) w0 w' ∧ Kg g w w' := by
  have hgl := h.lt
  have HX := Lib.hid hx
  have H := Lib.hid (h.below (((Below.refl _ _).alloc (Nat.le_refl _) (.cells #[.int .i64 0, .int .i64 0] 25)) : Below w.heap.size w _))
  have K0 := Lib.hid ((Kg.refl g w).below ((Below.refl _ _).alloc (Nat.le_refl _) (.cells #[.int .i64 0, .int .i64 0] 25)))
  have Z0 := Lib.hid (show ∀ k, k < 2 → (w.alloc (.cells #[.int .i64 0, .int .i64 0] 25)).cell? ⟨w.heap.size, k, none⟩ = some (.int .i64 0) ∧ (w.alloc (.cells #[.int .i64 0, .int .i64 0] 25)).frozen? ⟨w.heap.size, k, none⟩ = false from fun k hk => by
    rcases (by omega : k = 0 ∨ k = 1) with rfl | rfl
    · exact ⟨newcellA rfl rfl, by simp⟩
    · exact ⟨newcellA rfl rfl, by simp⟩)
  clear hx h
  go_enter Tryz.func40, Tryz.ntmps40
  go_wp2_with fail
  refine (pick_any g A n cap K xs 401 w0 _ H.out HX.out (by omega) hg (by omega) (by omega)).mono ?_
  rintro e w1 ⟨⟨r1, rfl, a1, a2⟩, hs1, hk1⟩
  have H1 := Lib.hid hs1
  have K1 := Lib.hid (K0.out.trans hk1)
  have Z1 := Lib.hid (show ∀ k, k < 2 → w1.cell? ⟨w.heap.size, k, none⟩ = some (.int .i64 0) ∧ w1.frozen? ⟨w.heap.size, k, none⟩ = false from fun k hk => ⟨(hk1.cell (p := ⟨w.heap.size, k, none⟩) (by simp) (by simp; omega)).trans (Z0.out k hk).1, (hk1.frozen (p := ⟨w.heap.size, k, none⟩) (by simp) (by simp; omega)).trans (Z0.out k hk).2⟩)
  have l1 : w.heap.size < w1.heap.size := by have := hk1.1; simp at this; omega
  clear hs1 hk1 H K0 Z0
  go_wp2_with fail
  refine (one_any g A n cap (K + 2) xs 2 w0 _ H1.out HX.out (by omega) hg (by omega) (by omega)).mono ?_
  rintro e w2 ⟨⟨b, rfl⟩, hs2, hk2⟩
  have H2 := Lib.hid hs2
  have K2 := Lib.hid (K1.out.trans hk2)
  have Z2 := Lib.hid (show ∀ k, k < 2 → w2.cell? ⟨w.heap.size, k, none⟩ = some (.int .i64 0) ∧ w2.frozen? ⟨w.heap.size, k, none⟩ = false from fun k hk => ⟨(hk2.cell (p := ⟨w.heap.size, k, none⟩) l1 (by simp; omega)).trans (Z1.out k hk).1, (hk2.frozen (p := ⟨w.heap.size, k, none⟩) l1 (by simp; omega)).trans (Z1.out k hk).2⟩)
  have l2 : w.heap.size < w2.heap.size := Nat.lt_of_lt_of_le l1 hk2.1
  clear hs2 hk2 H1 K1 Z1
  cases b
  · go_wp2_with fail
    refine (pick_any g A n cap (K + 4) xs 200 w0 _ H2.out HX.out (by omega) hg (by omega) (by omega)).mono ?_
    rintro e w3 ⟨⟨r9, rfl, a3, a4⟩, hs3, hk3⟩
    have H3 := Lib.hid hs3
    have K3 := Lib.hid (K2.out.trans hk3)
    have Z3 := Lib.hid (show ∀ k, k < 2 → w3.cell? ⟨w.heap.size, k, none⟩ = some (.int .i64 0) ∧ w3.frozen? ⟨w.heap.size, k, none⟩ = false from fun k hk => ⟨(hk3.cell (p := ⟨w.heap.size, k, none⟩) l2 (by simp; omega)).trans (Z2.out k hk).1, (hk3.frozen (p := ⟨w.heap.size, k, none⟩) l2 (by simp; omega)).trans (Z2.out k hk).2⟩)
    have l3 : w.heap.size < w3.heap.size := Nat.lt_of_lt_of_le l2 hk3.1
    clear hs3 hk3 H2 K2 Z2
    go_wp2_with fail
    refine (l02Make_any (r1 - 200) (1 + r9) _ (by omega) (by omega) (by omega) (by omega)).mono ?_
    obtain ⟨m1, m2, m3, m4⟩ := make_ok4 (num := r1 - 200) (den := 1 + r9) (by omega) (by omega) (by omega) (by omega)
    generalize (r1 - 200).tdiv (Int.gcd (r1 - 200) (1 + r9) : Nat) = x at *
    generalize (1 + r9).tdiv (Int.gcd (r1 - 200) (1 + r9) : Nat) = y at *
    have HD := Lib.hid (show DrwG x y from ⟨m1, m2, m3, m4⟩)
    clear m1 m2 m3 m4
    rintro e w10 ⟨rfl, hb⟩
    have H10 := Lib.hid (H3.out.below hb)
    have K10 := Lib.hid (K3.out.below hb)
    have z0 : w10.cell? ⟨w.heap.size, 0, none⟩ = some (.int .i64 0) := (hb.cell (p := ⟨w.heap.size, 0, none⟩) l3).trans (Z3.out 0 (by omega)).1
    have z1 : w10.cell? ⟨w.heap.size, 1, none⟩ = some (.int .i64 0) := (hb.cell (p := ⟨w.heap.size, 1, none⟩) l3).trans (Z3.out 1 (by omega)).1
    have f0 : w10.frozen? ⟨w.heap.size, 0, none⟩ = false := (hb.frozen (p := ⟨w.heap.size, 0, none⟩) l3).trans (Z3.out 0 (by omega)).2
    have f1 : w10.frozen? ⟨w.heap.size, 1, none⟩ = false := (hb.frozen (p := ⟨w.heap.size, 1, none⟩) l3).trans (Z3.out 1 (by omega)).2
    clear hb H3 K3 Z3
    go_wp2_with fail
    exact bodyPost_ret (v := .agg #[.int .i64 x, .int .i64 y]) (by simp [results, Tryz.results40, go_sem, pair_set z0 z1]) rfl ⟨⟨x, y, rfl, HD.out⟩, ((H10.out.set (b := w.heap.size) (by omega) (by have := H10.out.2.size; omega) 0 _).set (b := w.heap.size) (by omega) (by omega) 1 _).mono (by omega), (K10.out.other (Nat.le_refl _) 0 _).other (Nat.le_refl _) 1 _⟩
  · go_wp2_with fail
    refine (pick_any g A n cap (K + 4) xs 201 w0 _ H2.out HX.out (by omega) hg (by omega) (by omega)).mono ?_
    rintro e w3 ⟨⟨r2, rfl, a3, a4⟩, hs3, hk3⟩
    have H3 := Lib.hid hs3
    have K3 := Lib.hid (K2.out.trans hk3)
    have Z3 := Lib.hid (show ∀ k, k < 2 → w3.cell? ⟨w.heap.size, k, none⟩ = some (.int .i64 0) ∧ w3.frozen? ⟨w.heap.size, k, none⟩ = false from fun k hk => ⟨(hk3.cell (p := ⟨w.heap.size, k, none⟩) l2 (by simp; omega)).trans (Z2.out k hk).1, (hk3.frozen (p := ⟨w.heap.size, k, none⟩) l2 (by simp; omega)).trans (Z2.out k hk).2⟩)
    have l3 : w.heap.size < w3.heap.size := Nat.lt_of_lt_of_le l2 hk3.1
    clear hs3 hk3 H2 K2 Z2
    go_wp2_with fail
    refine (pick_any g A n cap (K + 6) xs 200 w0 _ H3.out HX.out (by omega) hg (by omega) (by omega)).mono ?_
    rintro e w4 ⟨⟨r9, rfl, a5, a6⟩, hs4, hk4⟩
    have H4 := Lib.hid hs4
    have K4 := Lib.hid (K3.out.trans hk4)
    have Z4 := Lib.hid (show ∀ k, k < 2 → w4.cell? ⟨w.heap.size, k, none⟩ = some (.int .i64 0) ∧ w4.frozen? ⟨w.heap.size, k, none⟩ = false from fun k hk => ⟨(hk4.cell (p := ⟨w.heap.size, k, none⟩) l3 (by simp; omega)).trans (Z3.out k hk).1, (hk4.frozen (p := ⟨w.heap.size, k, none⟩) l3 (by simp; omega)).trans (Z3.out k hk).2⟩)
    have l4 : w.heap.size < w4.heap.size := Nat.lt_of_lt_of_le l3 hk4.1
    clear hs4 hk4 H3 K3 Z3
    go_wp2_with fail
    refine (l02Make_any r2 (1 + r9) _ (by omega) (by omega) (by omega) (by omega)).mono ?_
    obtain ⟨m1, m2, m3, m4⟩ := make_ok4 (num := r2) (den := 1 + r9) (by omega) (by omega) (by omega) (by omega)
    generalize (r2).tdiv (Int.gcd (r2) (1 + r9) : Nat) = x at *
    generalize (1 + r9).tdiv (Int.gcd (r2) (1 + r9) : Nat) = y at *
    have HD := Lib.hid (show DrwG x y from ⟨m1, m2, m3, m4⟩)
    clear m1 m2 m3 m4
    rintro e w10 ⟨rfl, hb⟩
    have H10 := Lib.hid (H4.out.below hb)
    have K10 := Lib.hid (K4.out.below hb)
    have z0 : w10.cell? ⟨w.heap.size, 0, none⟩ = some (.int .i64 0) := (hb.cell (p := ⟨w.heap.size, 0, none⟩) l4).trans (Z4.out 0 (by omega)).1
    have z1 : w10.cell? ⟨w.heap.size, 1, none⟩ = some (.int .i64 0) := (hb.cell (p := ⟨w.heap.size, 1, none⟩) l4).trans (Z4.out 1 (by omega)).1
    have f0 : w10.frozen? ⟨w.heap.size, 0, none⟩ = false := (hb.frozen (p := ⟨w.heap.size, 0, none⟩) l4).trans (Z4.out 0 (by omega)).2
    have f1 : w10.frozen? ⟨w.heap.size, 1, none⟩ = false := (hb.frozen (p := ⟨w.heap.size, 1, none⟩) l4).trans (Z4.out 1 (by omega)).2
    clear hb H4 K4 Z4
    go_wp2_with fail
    exact bodyPost_ret (v := .agg #[.int .i64 x, .int .i64 y]) (by simp [results, Tryz.results40, go_sem, pair_set z0 z1]) rfl ⟨⟨x, y, rfl, HD.out⟩, ((H10.out.set (b := w.heap.size) (by omega) (by have := H10.out.2.size; omega) 0 _).set (b := w.heap.size) (by omega) (by omega) 1 _).mono (by omega), (K10.out.other (Nat.le_refl _) 0 _).other (Nat.le_refl _) 1 _⟩

set_option maxHeartbeats 1600000 in
theorem l02Draw_300 (g : Nat) (A : Option Addr) (n cap K : Nat) (xs : List Int) (w0 w : World) (h : St g A n cap K w0 w) (hx : BRow w0 A n xs) (hk : K ≤ 800) (hg : w0.heap.size ≤ g) :
    Calls Tryz.prog 40 #[.pointer (some ⟨g, 0, none⟩), .int .i64 300] w fun e w' => (∃ x y : Int, e = .returned (.agg #[.int .i64 x, .int .i64 y]) ∧ DrwG x y) ∧ St g A n cap (K + 8) w0 w' ∧ Kg g w w' := by
  have hgl := h.lt
  have HX := Lib.hid hx
  have H := Lib.hid (h.below (((Below.refl _ _).alloc (Nat.le_refl _) (.cells #[.int .i64 0, .int .i64 0] 25)) : Below w.heap.size w _))
  have K0 := Lib.hid ((Kg.refl g w).below ((Below.refl _ _).alloc (Nat.le_refl _) (.cells #[.int .i64 0, .int .i64 0] 25)))
  have Z0 := Lib.hid (show ∀ k, k < 2 → (w.alloc (.cells #[.int .i64 0, .int .i64 0] 25)).cell? ⟨w.heap.size, k, none⟩ = some (.int .i64 0) ∧ (w.alloc (.cells #[.int .i64 0, .int .i64 0] 25)).frozen? ⟨w.heap.size, k, none⟩ = false from fun k hk => by
    rcases (by omega : k = 0 ∨ k = 1) with rfl | rfl
    · exact ⟨newcellA rfl rfl, by simp⟩
    · exact ⟨newcellA rfl rfl, by simp⟩)
  clear hx h
  go_enter Tryz.func40, Tryz.ntmps40
  go_wp2_with fail
  refine (pick_any g A n cap K xs 601 w0 _ H.out HX.out (by omega) hg (by omega) (by omega)).mono ?_
  rintro e w1 ⟨⟨r1, rfl, a1, a2⟩, hs1, hk1⟩
  have H1 := Lib.hid hs1
  have K1 := Lib.hid (K0.out.trans hk1)
  have Z1 := Lib.hid (show ∀ k, k < 2 → w1.cell? ⟨w.heap.size, k, none⟩ = some (.int .i64 0) ∧ w1.frozen? ⟨w.heap.size, k, none⟩ = false from fun k hk => ⟨(hk1.cell (p := ⟨w.heap.size, k, none⟩) (by simp) (by simp; omega)).trans (Z0.out k hk).1, (hk1.frozen (p := ⟨w.heap.size, k, none⟩) (by simp) (by simp; omega)).trans (Z0.out k hk).2⟩)
  have l1 : w.heap.size < w1.heap.size := by have := hk1.1; simp at this; omega
  clear hs1 hk1 H K0 Z0
  go_wp2_with fail
  refine (one_any g A n cap (K + 2) xs 2 w0 _ H1.out HX.out (by omega) hg (by omega) (by omega)).mono ?_
  rintro e w2 ⟨⟨b, rfl⟩, hs2, hk2⟩
  have H2 := Lib.hid hs2
  have K2 := Lib.hid (K1.out.trans hk2)
  have Z2 := Lib.hid (show ∀ k, k < 2 → w2.cell? ⟨w.heap.size, k, none⟩ = some (.int .i64 0) ∧ w2.frozen? ⟨w.heap.size, k, none⟩ = false from fun k hk => ⟨(hk2.cell (p := ⟨w.heap.size, k, none⟩) l1 (by simp; omega)).trans (Z1.out k hk).1, (hk2.frozen (p := ⟨w.heap.size, k, none⟩) l1 (by simp; omega)).trans (Z1.out k hk).2⟩)
  have l2 : w.heap.size < w2.heap.size := Nat.lt_of_lt_of_le l1 hk2.1
  clear hs2 hk2 H1 K1 Z1
  cases b
  · go_wp2_with fail
    refine (pick_any g A n cap (K + 4) xs 300 w0 _ H2.out HX.out (by omega) hg (by omega) (by omega)).mono ?_
    rintro e w3 ⟨⟨r9, rfl, a3, a4⟩, hs3, hk3⟩
    have H3 := Lib.hid hs3
    have K3 := Lib.hid (K2.out.trans hk3)
    have Z3 := Lib.hid (show ∀ k, k < 2 → w3.cell? ⟨w.heap.size, k, none⟩ = some (.int .i64 0) ∧ w3.frozen? ⟨w.heap.size, k, none⟩ = false from fun k hk => ⟨(hk3.cell (p := ⟨w.heap.size, k, none⟩) l2 (by simp; omega)).trans (Z2.out k hk).1, (hk3.frozen (p := ⟨w.heap.size, k, none⟩) l2 (by simp; omega)).trans (Z2.out k hk).2⟩)
    have l3 : w.heap.size < w3.heap.size := Nat.lt_of_lt_of_le l2 hk3.1
    clear hs3 hk3 H2 K2 Z2
    go_wp2_with fail
    refine (l02Make_any (r1 - 300) (1 + r9) _ (by omega) (by omega) (by omega) (by omega)).mono ?_
    obtain ⟨m1, m2, m3, m4⟩ := make_ok4 (num := r1 - 300) (den := 1 + r9) (by omega) (by omega) (by omega) (by omega)
    generalize (r1 - 300).tdiv (Int.gcd (r1 - 300) (1 + r9) : Nat) = x at *
    generalize (1 + r9).tdiv (Int.gcd (r1 - 300) (1 + r9) : Nat) = y at *
    have HD := Lib.hid (show DrwG x y from ⟨m1, m2, m3, m4⟩)
    clear m1 m2 m3 m4
    rintro e w10 ⟨rfl, hb⟩
    have H10 := Lib.hid (H3.out.below hb)
    have K10 := Lib.hid (K3.out.below hb)
    have z0 : w10.cell? ⟨w.heap.size, 0, none⟩ = some (.int .i64 0) := (hb.cell (p := ⟨w.heap.size, 0, none⟩) l3).trans (Z3.out 0 (by omega)).1
    have z1 : w10.cell? ⟨w.heap.size, 1, none⟩ = some (.int .i64 0) := (hb.cell (p := ⟨w.heap.size, 1, none⟩) l3).trans (Z3.out 1 (by omega)).1
    have f0 : w10.frozen? ⟨w.heap.size, 0, none⟩ = false := (hb.frozen (p := ⟨w.heap.size, 0, none⟩) l3).trans (Z3.out 0 (by omega)).2
    have f1 : w10.frozen? ⟨w.heap.size, 1, none⟩ = false := (hb.frozen (p := ⟨w.heap.size, 1, none⟩) l3).trans (Z3.out 1 (by omega)).2
    clear hb H3 K3 Z3
    go_wp2_with fail
    exact bodyPost_ret (v := .agg #[.int .i64 x, .int .i64 y]) (by simp [results, Tryz.results40, go_sem, pair_set z0 z1]) rfl ⟨⟨x, y, rfl, HD.out⟩, ((H10.out.set (b := w.heap.size) (by omega) (by have := H10.out.2.size; omega) 0 _).set (b := w.heap.size) (by omega) (by omega) 1 _).mono (by omega), (K10.out.other (Nat.le_refl _) 0 _).other (Nat.le_refl _) 1 _⟩
  · go_wp2_with fail
    refine (pick_any g A n cap (K + 4) xs 301 w0 _ H2.out HX.out (by omega) hg (by omega) (by omega)).mono ?_
    rintro e w3 ⟨⟨r2, rfl, a3, a4⟩, hs3, hk3⟩
    have H3 := Lib.hid hs3
    have K3 := Lib.hid (K2.out.trans hk3)
    have Z3 := Lib.hid (show ∀ k, k < 2 → w3.cell? ⟨w.heap.size, k, none⟩ = some (.int .i64 0) ∧ w3.frozen? ⟨w.heap.size, k, none⟩ = false from fun k hk => ⟨(hk3.cell (p := ⟨w.heap.size, k, none⟩) l2 (by simp; omega)).trans (Z2.out k hk).1, (hk3.frozen (p := ⟨w.heap.size, k, none⟩) l2 (by simp; omega)).trans (Z2.out k hk).2⟩)
    have l3 : w.heap.size < w3.heap.size := Nat.lt_of_lt_of_le l2 hk3.1
    clear hs3 hk3 H2 K2 Z2
    go_wp2_with fail
    refine (pick_any g A n cap (K + 6) xs 300 w0 _ H3.out HX.out (by omega) hg (by omega) (by omega)).mono ?_
    rintro e w4 ⟨⟨r9, rfl, a5, a6⟩, hs4, hk4⟩
    have H4 := Lib.hid hs4
    have K4 := Lib.hid (K3.out.trans hk4)
    have Z4 := Lib.hid (show ∀ k, k < 2 → w4.cell? ⟨w.heap.size, k, none⟩ = some (.int .i64 0) ∧ w4.frozen? ⟨w.heap.size, k, none⟩ = false from fun k hk => ⟨(hk4.cell (p := ⟨w.heap.size, k, none⟩) l3 (by simp; omega)).trans (Z3.out k hk).1, (hk4.frozen (p := ⟨w.heap.size, k, none⟩) l3 (by simp; omega)).trans (Z3.out k hk).2⟩)
    have l4 : w.heap.size < w4.heap.size := Nat.lt_of_lt_of_le l3 hk4.1
    clear hs4 hk4 H3 K3 Z3
    go_wp2_with fail
    refine (l02Make_any r2 (1 + r9) _ (by omega) (by omega) (by omega) (by omega)).mono ?_
    obtain ⟨m1, m2, m3, m4⟩ := make_ok4 (num := r2) (den := 1 + r9) (by omega) (by omega) (by omega) (by omega)
    generalize (r2).tdiv (Int.gcd (r2) (1 + r9) : Nat) = x at *
    generalize (1 + r9).tdiv (Int.gcd (r2) (1 + r9) : Nat) = y at *
    have HD := Lib.hid (show DrwG x y from ⟨m1, m2, m3, m4⟩)
    clear m1 m2 m3 m4
    rintro e w10 ⟨rfl, hb⟩
    have H10 := Lib.hid (H4.out.below hb)
    have K10 := Lib.hid (K4.out.below hb)
    have z0 : w10.cell? ⟨w.heap.size, 0, none⟩ = some (.int .i64 0) := (hb.cell (p := ⟨w.heap.size, 0, none⟩) l4).trans (Z4.out 0 (by omega)).1
    have z1 : w10.cell? ⟨w.heap.size, 1, none⟩ = some (.int .i64 0) := (hb.cell (p := ⟨w.heap.size, 1, none⟩) l4).trans (Z4.out 1 (by omega)).1
    have f0 : w10.frozen? ⟨w.heap.size, 0, none⟩ = false := (hb.frozen (p := ⟨w.heap.size, 0, none⟩) l4).trans (Z4.out 0 (by omega)).2
    have f1 : w10.frozen? ⟨w.heap.size, 1, none⟩ = false := (hb.frozen (p := ⟨w.heap.size, 1, none⟩) l4).trans (Z4.out 1 (by omega)).2
    clear hb H4 K4 Z4
    go_wp2_with fail
    exact bodyPost_ret (v := .agg #[.int .i64 x, .int .i64 y]) (by simp [results, Tryz.results40, go_sem, pair_set z0 z1]) rfl ⟨⟨x, y, rfl, HD.out⟩, ((H10.out.set (b := w.heap.size) (by omega) (by have := H10.out.2.size; omega) 0 _).set (b := w.heap.size) (by omega) (by omega) 1 _).mono (by omega), (K10.out.other (Nat.le_refl _) 0 _).other (Nat.le_refl _) 1 _⟩

set_option maxHeartbeats 1600000 in
theorem l02Draw_400 (g : Nat) (A : Option Addr) (n cap K : Nat) (xs : List Int) (w0 w : World) (h : St g A n cap K w0 w) (hx : BRow w0 A n xs) (hk : K ≤ 800) (hg : w0.heap.size ≤ g) :
    Calls Tryz.prog 40 #[.pointer (some ⟨g, 0, none⟩), .int .i64 400] w fun e w' => (∃ x y : Int, e = .returned (.agg #[.int .i64 x, .int .i64 y]) ∧ DrwG x y) ∧ St g A n cap (K + 8) w0 w' ∧ Kg g w w' := by
  have hgl := h.lt
  have HX := Lib.hid hx
  have H := Lib.hid (h.below (((Below.refl _ _).alloc (Nat.le_refl _) (.cells #[.int .i64 0, .int .i64 0] 25)) : Below w.heap.size w _))
  have K0 := Lib.hid ((Kg.refl g w).below ((Below.refl _ _).alloc (Nat.le_refl _) (.cells #[.int .i64 0, .int .i64 0] 25)))
  have Z0 := Lib.hid (show ∀ k, k < 2 → (w.alloc (.cells #[.int .i64 0, .int .i64 0] 25)).cell? ⟨w.heap.size, k, none⟩ = some (.int .i64 0) ∧ (w.alloc (.cells #[.int .i64 0, .int .i64 0] 25)).frozen? ⟨w.heap.size, k, none⟩ = false from fun k hk => by
    rcases (by omega : k = 0 ∨ k = 1) with rfl | rfl
    · exact ⟨newcellA rfl rfl, by simp⟩
    · exact ⟨newcellA rfl rfl, by simp⟩)
  clear hx h
  go_enter Tryz.func40, Tryz.ntmps40
  go_wp2_with fail
  refine (pick_any g A n cap K xs 801 w0 _ H.out HX.out (by omega) hg (by omega) (by omega)).mono ?_
  rintro e w1 ⟨⟨r1, rfl, a1, a2⟩, hs1, hk1⟩
  have H1 := Lib.hid hs1
  have K1 := Lib.hid (K0.out.trans hk1)
  have Z1 := Lib.hid (show ∀ k, k < 2 → w1.cell? ⟨w.heap.size, k, none⟩ = some (.int .i64 0) ∧ w1.frozen? ⟨w.heap.size, k, none⟩ = false from fun k hk => ⟨(hk1.cell (p := ⟨w.heap.size, k, none⟩) (by simp) (by simp; omega)).trans (Z0.out k hk).1, (hk1.frozen (p := ⟨w.heap.size, k, none⟩) (by simp) (by simp; omega)).trans (Z0.out k hk).2⟩)
  have l1 : w.heap.size < w1.heap.size := by have := hk1.1; simp at this; omega
  clear hs1 hk1 H K0 Z0
  go_wp2_with fail
  refine (one_any g A n cap (K + 2) xs 2 w0 _ H1.out HX.out (by omega) hg (by omega) (by omega)).mono ?_
  rintro e w2 ⟨⟨b, rfl⟩, hs2, hk2⟩
  have H2 := Lib.hid hs2
  have K2 := Lib.hid (K1.out.trans hk2)
  have Z2 := Lib.hid (show ∀ k, k < 2 → w2.cell? ⟨w.heap.size, k, none⟩ = some (.int .i64 0) ∧ w2.frozen? ⟨w.heap.size, k, none⟩ = false from fun k hk => ⟨(hk2.cell (p := ⟨w.heap.size, k, none⟩) l1 (by simp; omega)).trans (Z1.out k hk).1, (hk2.frozen (p := ⟨w.heap.size, k, none⟩) l1 (by simp; omega)).trans (Z1.out k hk).2⟩)
  have l2 : w.heap.size < w2.heap.size := Nat.lt_of_lt_of_le l1 hk2.1
  clear hs2 hk2 H1 K1 Z1
  cases b
  · go_wp2_with fail
    refine (pick_any g A n cap (K + 4) xs 400 w0 _ H2.out HX.out (by omega) hg (by omega) (by omega)).mono ?_
    rintro e w3 ⟨⟨r9, rfl, a3, a4⟩, hs3, hk3⟩
    have H3 := Lib.hid hs3
    have K3 := Lib.hid (K2.out.trans hk3)
    have Z3 := Lib.hid (show ∀ k, k < 2 → w3.cell? ⟨w.heap.size, k, none⟩ = some (.int .i64 0) ∧ w3.frozen? ⟨w.heap.size, k, none⟩ = false from fun k hk => ⟨(hk3.cell (p := ⟨w.heap.size, k, none⟩) l2 (by simp; omega)).trans (Z2.out k hk).1, (hk3.frozen (p := ⟨w.heap.size, k, none⟩) l2 (by simp; omega)).trans (Z2.out k hk).2⟩)
    have l3 : w.heap.size < w3.heap.size := Nat.lt_of_lt_of_le l2 hk3.1
    clear hs3 hk3 H2 K2 Z2
    go_wp2_with fail
    refine (l02Make_any (r1 - 400) (1 + r9) _ (by omega) (by omega) (by omega) (by omega)).mono ?_
    obtain ⟨m1, m2, m3, m4⟩ := make_ok4 (num := r1 - 400) (den := 1 + r9) (by omega) (by omega) (by omega) (by omega)
    generalize (r1 - 400).tdiv (Int.gcd (r1 - 400) (1 + r9) : Nat) = x at *
    generalize (1 + r9).tdiv (Int.gcd (r1 - 400) (1 + r9) : Nat) = y at *
    have HD := Lib.hid (show DrwG x y from ⟨m1, m2, m3, m4⟩)
    clear m1 m2 m3 m4
    rintro e w10 ⟨rfl, hb⟩
    have H10 := Lib.hid (H3.out.below hb)
    have K10 := Lib.hid (K3.out.below hb)
    have z0 : w10.cell? ⟨w.heap.size, 0, none⟩ = some (.int .i64 0) := (hb.cell (p := ⟨w.heap.size, 0, none⟩) l3).trans (Z3.out 0 (by omega)).1
    have z1 : w10.cell? ⟨w.heap.size, 1, none⟩ = some (.int .i64 0) := (hb.cell (p := ⟨w.heap.size, 1, none⟩) l3).trans (Z3.out 1 (by omega)).1
    have f0 : w10.frozen? ⟨w.heap.size, 0, none⟩ = false := (hb.frozen (p := ⟨w.heap.size, 0, none⟩) l3).trans (Z3.out 0 (by omega)).2
    have f1 : w10.frozen? ⟨w.heap.size, 1, none⟩ = false := (hb.frozen (p := ⟨w.heap.size, 1, none⟩) l3).trans (Z3.out 1 (by omega)).2
    clear hb H3 K3 Z3
    go_wp2_with fail
    exact bodyPost_ret (v := .agg #[.int .i64 x, .int .i64 y]) (by simp [results, Tryz.results40, go_sem, pair_set z0 z1]) rfl ⟨⟨x, y, rfl, HD.out⟩, ((H10.out.set (b := w.heap.size) (by omega) (by have := H10.out.2.size; omega) 0 _).set (b := w.heap.size) (by omega) (by omega) 1 _).mono (by omega), (K10.out.other (Nat.le_refl _) 0 _).other (Nat.le_refl _) 1 _⟩
  · go_wp2_with fail
    refine (pick_any g A n cap (K + 4) xs 401 w0 _ H2.out HX.out (by omega) hg (by omega) (by omega)).mono ?_
    rintro e w3 ⟨⟨r2, rfl, a3, a4⟩, hs3, hk3⟩
    have H3 := Lib.hid hs3
    have K3 := Lib.hid (K2.out.trans hk3)
    have Z3 := Lib.hid (show ∀ k, k < 2 → w3.cell? ⟨w.heap.size, k, none⟩ = some (.int .i64 0) ∧ w3.frozen? ⟨w.heap.size, k, none⟩ = false from fun k hk => ⟨(hk3.cell (p := ⟨w.heap.size, k, none⟩) l2 (by simp; omega)).trans (Z2.out k hk).1, (hk3.frozen (p := ⟨w.heap.size, k, none⟩) l2 (by simp; omega)).trans (Z2.out k hk).2⟩)
    have l3 : w.heap.size < w3.heap.size := Nat.lt_of_lt_of_le l2 hk3.1
    clear hs3 hk3 H2 K2 Z2
    go_wp2_with fail
    refine (pick_any g A n cap (K + 6) xs 400 w0 _ H3.out HX.out (by omega) hg (by omega) (by omega)).mono ?_
    rintro e w4 ⟨⟨r9, rfl, a5, a6⟩, hs4, hk4⟩
    have H4 := Lib.hid hs4
    have K4 := Lib.hid (K3.out.trans hk4)
    have Z4 := Lib.hid (show ∀ k, k < 2 → w4.cell? ⟨w.heap.size, k, none⟩ = some (.int .i64 0) ∧ w4.frozen? ⟨w.heap.size, k, none⟩ = false from fun k hk => ⟨(hk4.cell (p := ⟨w.heap.size, k, none⟩) l3 (by simp; omega)).trans (Z3.out k hk).1, (hk4.frozen (p := ⟨w.heap.size, k, none⟩) l3 (by simp; omega)).trans (Z3.out k hk).2⟩)
    have l4 : w.heap.size < w4.heap.size := Nat.lt_of_lt_of_le l3 hk4.1
    clear hs4 hk4 H3 K3 Z3
    go_wp2_with fail
    refine (l02Make_any r2 (1 + r9) _ (by omega) (by omega) (by omega) (by omega)).mono ?_
    obtain ⟨m1, m2, m3, m4⟩ := make_ok4 (num := r2) (den := 1 + r9) (by omega) (by omega) (by omega) (by omega)
    generalize (r2).tdiv (Int.gcd (r2) (1 + r9) : Nat) = x at *
    generalize (1 + r9).tdiv (Int.gcd (r2) (1 + r9) : Nat) = y at *
    have HD := Lib.hid (show DrwG x y from ⟨m1, m2, m3, m4⟩)
    clear m1 m2 m3 m4
    rintro e w10 ⟨rfl, hb⟩
    have H10 := Lib.hid (H4.out.below hb)
    have K10 := Lib.hid (K4.out.below hb)
    have z0 : w10.cell? ⟨w.heap.size, 0, none⟩ = some (.int .i64 0) := (hb.cell (p := ⟨w.heap.size, 0, none⟩) l4).trans (Z4.out 0 (by omega)).1
    have z1 : w10.cell? ⟨w.heap.size, 1, none⟩ = some (.int .i64 0) := (hb.cell (p := ⟨w.heap.size, 1, none⟩) l4).trans (Z4.out 1 (by omega)).1
    have f0 : w10.frozen? ⟨w.heap.size, 0, none⟩ = false := (hb.frozen (p := ⟨w.heap.size, 0, none⟩) l4).trans (Z4.out 0 (by omega)).2
    have f1 : w10.frozen? ⟨w.heap.size, 1, none⟩ = false := (hb.frozen (p := ⟨w.heap.size, 1, none⟩) l4).trans (Z4.out 1 (by omega)).2
    clear hb H4 K4 Z4
    go_wp2_with fail
    exact bodyPost_ret (v := .agg #[.int .i64 x, .int .i64 y]) (by simp [results, Tryz.results40, go_sem, pair_set z0 z1]) rfl ⟨⟨x, y, rfl, HD.out⟩, ((H10.out.set (b := w.heap.size) (by omega) (by have := H10.out.2.size; omega) 0 _).set (b := w.heap.size) (by omega) (by omega) 1 _).mono (by omega), (K10.out.other (Nat.le_refl _) 0 _).other (Nat.le_refl _) 1 _⟩

theorem IRow.kg {g : Nat} {w w' : World} {B : Option Addr} {m : Nat} {zs : List Int} (h : IRow w B m zs) (hk : Kg g w w') (hB : ∀ ad, B = some ad → ad.block ≠ g) : IRow w' B m zs :=
  ⟨h.1, h.2.1, h.2.2.1, h.2.2.2.keep fun p u hu ⟨ad, e, hp⟩ => (hk.cell (World.block_lt_of_cell? w p hu) (by rw [hp]; exact hB ad e)).trans hu⟩
theorem among_any (g : Nat) (A : Option Addr) (n cap K : Nat) (xs : List Int) (B : Option Addr) (m c : Nat) (zs : List Int) (w0 w : World) (h : St g A n cap K w0 w) (hx : BRow w0 A n xs) (hk : K ≤ 900) (hg : w0.heap.size ≤ g) (h1 : 1 ≤ m) (h2 : m ≤ 100)
    (hr : IRow w B m zs) (hB : ∀ ad, B = some ad → ad.block ≠ g) :
    Calls Tryz.prog 103 #[.pointer (some ⟨g, 0, none⟩), .slice B m c] w fun e w' => (∃ z : Int, e = .returned (.int .i64 z) ∧ z ∈ zs ∧ Rng z) ∧ St g A n cap (K + 2) w0 w' ∧ Kg g w w' := by
  have HP := Lib.hid (pick_any g A n cap K xs m w0 w h hx hk hg (by omega) (by omega))
  have HR := Lib.hid hr
  have HB := Lib.hid hB
  clear h hx hr hB
  go_enter Tryz.func103, Tryz.ntmps103
  go_wp2_with fail
  refine HP.out.mono ?_
  rintro e w1 ⟨⟨r, rfl, r0, r1⟩, hs1, hk1⟩
  obtain ⟨q, rfl⟩ := Int.eq_ofNat_of_zero_le r0
  obtain ⟨ad, z, rfl, hz, z1, z2, hc⟩ := (HR.out.kg hk1 HB.out).at_ (k := q) (by omega)
  have HZ := Lib.hid (List.mem_of_getElem? hz)
  have H1 := Lib.hid hs1
  have K1 := Lib.hid hk1
  clear hs1 hk1 hz
  go_wp2_with fail
  go_ret
  exact ⟨⟨z, rfl, HZ.out, by unfold Rng; omega⟩, H1.out, K1.out⟩
theorem irow_new (w : World) (zs : List Int) (cs : Array Value) (t : TypeId) (n : Nat) (hn : zs.length = n) (hc : cs.toList = zs.map (Value.int .i64)) (hb : n ≤ 9223372036854775807) (hr : ∀ z ∈ zs, Rng z) : IRow (w.alloc (.cells cs t)) (some ⟨w.heap.size, 0, none⟩) n zs :=
  ⟨hn, hb, hr, fun j u hu => ⟨_, rfl, newcell rfl (by rw [hc]; exact hu)⟩⟩
theorem Pr.set_other {w : World} {b c : Nat} {x y : Int} (h : Pr w b x y) (hne : c ≠ b) (o : Nat) (v : Value) : Pr (w.setCell ⟨c, o, none⟩ v) b x y := by
  have e : ∀ j, (⟨c, o, none⟩ : Addr) ≠ ⟨b, j, none⟩ := fun j e => by injection e with e; exact hne e
  exact ⟨setO (e 0) h.1, setO (e 1) h.2.1, setF h.2.2.1, setF h.2.2.2⟩
theorem Pr.set0 {w : World} {b : Nat} {x y : Int} (h : Pr w b x y) (u : Int) : Pr (w.setCell ⟨b, 0, none⟩ (.int .i64 u)) b u y :=
  ⟨setS h.1, setO (by simp) h.2.1, setF h.2.2.1, setF h.2.2.2⟩
theorem Pr.set1 {w : World} {b : Nat} {x y : Int} (h : Pr w b x y) (u : Int) : Pr (w.setCell ⟨b, 1, none⟩ (.int .i64 u)) b x u :=
  ⟨setO (by simp) h.1, setS h.2.1, setF h.2.2.1, setF h.2.2.2⟩
theorem Kg.grown {g : Nat} {w w1 w2 : World} {row : Option Nat} (h : Kg g w w1) (hg : w1.grownBy w2 row) (hr : ∀ k, row = some k → w.heap.size ≤ k) : Kg g w w2 := by
  refine ⟨Nat.le_trans h.1 hg.size, fun i hi hne => ?_⟩
  rw [← h.2 i hi hne]
  exact hg.block i (Nat.lt_of_lt_of_le hi h.1) (fun e => by have := hr i e.symm; omega)
theorem Kg.alloc {g : Nat} {w w1 : World} (h : Kg g w w1) (o : Obj) : Kg g w (w1.alloc o) := h.below ((Below.refl _ _).alloc (Nat.le_refl _) o)
theorem rng_all {l : List Int} (h : l.all (fun z => decide (-9223372036854775808 ≤ z) && decide (z ≤ 9223372036854775807)) = true) : ∀ z ∈ l, Rng z := fun z hz => by
  have := List.all_eq_true.1 h z hz
  simpa [Rng] using this
theorem l04DrawKind_any (g : Nat) (A : Option Addr) (n cap K : Nat) (xs : List Int) (w0 w : World) (h : St g A n cap K w0 w) (hx : BRow w0 A n xs) (hk : K ≤ 800) (hg : w0.heap.size ≤ g) :
    Calls Tryz.prog 57 #[.pointer (some ⟨g, 0, none⟩)] w fun e w' => (∃ z : Int, e = .returned (.int .i64 z) ∧ Rng z) ∧ St g A n cap (K + 4) w0 w' ∧ Kg g w w' := by
  have HX := Lib.hid hx
  have H := Lib.hid h
  have hgl := h.lt
  clear hx h
  go_enter Tryz.func57, Tryz.ntmps57
  go_wp2_with fail
  refine (one_any g A n cap K xs 12 w0 w H.out HX.out (by omega) hg (by omega) (by omega)).mono ?_
  rintro e w1 ⟨⟨b, rfl⟩, hs1, hk1⟩
  have hl1 := hs1.lt
  have H1 := Lib.hid hs1
  have K1 := Lib.hid hk1
  clear hs1 hk1 H
  cases b
  · go_wp2_with fail
    refine (pick_any g A n cap (K + 2) xs 4 w0 w1 H1.out HX.out (by omega) hg (by omega) (by omega)).mono ?_
    rintro e w2 ⟨⟨r, rfl, r0, r1⟩, hs2, hk2⟩
    have H2 := Lib.hid hs2
    have K2 := Lib.hid (K1.out.trans hk2)
    clear hs2 hk2 H1 K1
    go_wp2_with fail
    go_ret
    exact ⟨⟨_, rfl, by unfold Rng; omega⟩, H2.out, K2.out⟩
  · go_wp2_with fail
    refine (among_any g A n cap (K + 2) xs (some ⟨w1.heap.size, 0, none⟩) 3 3 [0, 5, -9223372036854775808] w0 _ (H1.out.alloc _) HX.out (by omega) hg (by omega) (by omega) (irow_new w1 _ _ _ 3 rfl rfl (by omega) (rng_all (by decide))) (fun ad h => by injection h with h; subst h; simp; omega)).mono ?_
    rintro e w2 ⟨⟨z, rfl, _, hz⟩, hs2, hk2⟩
    have H2 := Lib.hid hs2
    have K2 := Lib.hid ((K1.out.alloc _).trans hk2)
    have HZ := Lib.hid hz
    clear hs2 hk2 H1 K1 hz
    go_wp2_with fail
    go_ret
    exact ⟨⟨_, rfl, HZ.out⟩, H2.out, K2.out⟩
set_option maxRecDepth 100000 in
set_option maxHeartbeats 3200000 in
theorem l02Bent_any (g : Nat) (A : Option Addr) (n cap K : Nat) (xs : List Int) (w0 w : World) (h : St g A n cap K w0 w) (hx : BRow w0 A n xs) (hk : K ≤ 600) (hg : w0.heap.size ≤ g) :
    Calls Tryz.prog 56 #[.pointer (some ⟨g, 0, none⟩)] w fun e w' => (∃ x y : Int, e = .returned (.agg #[.int .i64 x, .int .i64 y]) ∧ Rng x ∧ Rng y) ∧ St g A n cap (K + 20) w0 w' ∧ Kg g w w' := by
  have hgl := h.lt
  have hsz := h.2.size
  have HX := Lib.hid hx
  have H := Lib.hid (h.alloc (.cells #[.int .i64 0, .int .i64 0] 25))
  have K0 := Lib.hid ((Kg.refl g w).alloc (.cells #[.int .i64 0, .int .i64 0] 25))
  have Z0 := Lib.hid (Pr.new w 0 0 25)
  clear hx h
  go_enter Tryz.func56, Tryz.ntmps56
  go_wp2_with fail
  refine (l02Draw_300 g A n cap K xs w0 _ H.out HX.out (by omega) hg).mono ?_
  rintro e w1 ⟨⟨x, y, rfl, hd⟩, hs1, hk1⟩
  have hg1 := hs1.lt
  have l1 : w.heap.size < w1.heap.size := by have := hk1.1; simp at this; omega
  have H1 := Lib.hid (hs1.alloc (.cells #[.int .i64 x, .int .i64 y] 25))
  have K1 := Lib.hid ((K0.out.trans hk1).alloc (.cells #[.int .i64 x, .int .i64 y] 25))
  have Z1 := Lib.hid ((Z0.out.kg hk1 (by omega)).below ((Below.refl _ _).alloc (Nat.le_refl _) (.cells #[.int .i64 x, .int .i64 y] 25)))
  have F1 := Lib.hid (Pr.new w1 x y 25)
  have hxy : Rng x ∧ Rng y := by
    have := vfB_iff.1 hd.1
    unfold Rng; omega
  have HXY := Lib.hid hxy
  clear hs1 hk1 H K0 Z0 hd hxy
  go_wp2_with fail
  refine (pick_any g A n cap (K + 8) xs 20 w0 _ H1.out HX.out (by omega) hg (by omega) (by omega)).mono ?_
  rintro e w2 ⟨⟨r, rfl, r0, r1⟩, hs2, hk2⟩
  have hg2 := hs2.lt
  have l2 : w1.heap.size < w2.heap.size := by have := hk2.1; simp at this; omega
  have H2 := Lib.hid hs2
  have K2 := Lib.hid (K1.out.trans hk2)
  have Z2 := Lib.hid (Z1.out.kg hk2 (by omega))
  have F2 := Lib.hid (F1.out.kg hk2 (by omega))
  clear hs2 hk2 H1 K1 Z1 F1
  rcases (by omega : r = 0 ∨ r = 1 ∨ r = 2 ∨ r = 3 ∨ (r ≠ 0 ∧ r ≠ 1 ∧ r ≠ 2 ∧ r ≠ 3)) with rfl | rfl | rfl | rfl | ⟨q0, q1, q2, q3⟩
  · go_wp2_with fail
    refine (among_any g A n cap (K + 10) xs (some ⟨w2.heap.size, 0, none⟩) 5 5 [-1000000001, -1000000000, 1000000000, 1000000001, -9223372036854775808] w0 _ (H2.out.alloc _) HX.out (by omega) hg (by omega) (by omega) (irow_new w2 _ _ _ 5 rfl rfl (by omega) (rng_all (by decide))) (fun ad h => by injection h with h; subst h; simp; omega)).mono ?_
    rintro e w3 ⟨⟨z, rfl, _, hz⟩, hs3, hk3⟩
    have hA : Below w2.heap.size w2 (w2.alloc (.cells #[.int .i64 (-1000000001), .int .i64 (-1000000000), .int .i64 1000000000, .int .i64 1000000001, .int .i64 (-9223372036854775808)] 2)) := (Below.refl _ _).alloc (Nat.le_refl _) _
    have H3 := Lib.hid hs3
    have K3 := Lib.hid ((K2.out.below hA).trans hk3)
    have Z3 := Lib.hid ((Z2.out.below hA).kg hk3 (by omega))
    have F3 := Lib.hid ((F2.out.below hA).kg hk3 (by omega))
    have HZ := Lib.hid hz
    clear hs3 hk3 hA H2 K2 Z2 F2 hz
    obtain ⟨z0, z1, zf0, zf1⟩ := Z3.out
    obtain ⟨f0, f1, ff0, ff1⟩ := F3.out
    go_wp2_with fail
    exact bodyPost_ret (v := .agg #[.int .i64 z, .int .i64 y]) (by simp [results, Tryz.results56, go_sem, pair_set (Z3.out.set_other (c := w1.heap.size) (by omega) 0 (.int .i64 z)).1 (Z3.out.set_other (c := w1.heap.size) (by omega) 0 (.int .i64 z)).2.1]) rfl ⟨⟨_, _, rfl, HZ.out, HXY.out.2⟩, (((H3.out.set (b := w1.heap.size) (by omega) (by omega) 0 _).set (b := w.heap.size) (by omega) (by omega) 0 _).set (b := w.heap.size) (by omega) (by omega) 1 _).mono (by omega), (((K3.out.other (b := w1.heap.size) (by omega) 0 _).other (b := w.heap.size) (Nat.le_refl _) 0 _).other (b := w.heap.size) (Nat.le_refl _) 1 _)⟩
  · go_wp2_with fail
    refine (among_any g A n cap (K + 10) xs (some ⟨w2.heap.size, 0, none⟩) 6 6 [-1, 0, 1, 1000000000, 1000000001, 9223372036854775807] w0 _ (H2.out.alloc _) HX.out (by omega) hg (by omega) (by omega) (irow_new w2 _ _ _ 6 rfl rfl (by omega) (rng_all (by decide))) (fun ad h => by injection h with h; subst h; simp; omega)).mono ?_
    rintro e w3 ⟨⟨z, rfl, _, hz⟩, hs3, hk3⟩
    have hA : Below w2.heap.size w2 (w2.alloc (.cells #[.int .i64 (-1), .int .i64 0, .int .i64 1, .int .i64 1000000000, .int .i64 1000000001, .int .i64 9223372036854775807] 2)) := (Below.refl _ _).alloc (Nat.le_refl _) _
    have H3 := Lib.hid hs3
    have K3 := Lib.hid ((K2.out.below hA).trans hk3)
    have Z3 := Lib.hid ((Z2.out.below hA).kg hk3 (by omega))
    have F3 := Lib.hid ((F2.out.below hA).kg hk3 (by omega))
    have HZ := Lib.hid hz
    clear hs3 hk3 hA H2 K2 Z2 F2 hz
    obtain ⟨z0, z1, zf0, zf1⟩ := Z3.out
    obtain ⟨f0, f1, ff0, ff1⟩ := F3.out
    go_wp2_with fail
    exact bodyPost_ret (v := .agg #[.int .i64 x, .int .i64 z]) (by simp [results, Tryz.results56, go_sem, pair_set (Z3.out.set_other (c := w1.heap.size) (by omega) 1 (.int .i64 z)).1 (Z3.out.set_other (c := w1.heap.size) (by omega) 1 (.int .i64 z)).2.1]) rfl ⟨⟨_, _, rfl, HXY.out.1, HZ.out⟩, (((H3.out.set (b := w1.heap.size) (by omega) (by omega) 1 _).set (b := w.heap.size) (by omega) (by omega) 0 _).set (b := w.heap.size) (by omega) (by omega) 1 _).mono (by omega), (((K3.out.other (b := w1.heap.size) (by omega) 1 _).other (b := w.heap.size) (Nat.le_refl _) 0 _).other (b := w.heap.size) (Nat.le_refl _) 1 _)⟩
  · obtain ⟨z0, z1, zf0, zf1⟩ := Z2.out
    go_wp2_with fail
    exact bodyPost_ret (v := .agg #[.int .i64 2, .int .i64 4]) (by simp [results, Tryz.results56, go_sem, pair_set Z2.out.1 Z2.out.2.1]) rfl ⟨⟨_, _, rfl, (by unfold Rng; omega), (by unfold Rng; omega)⟩, ((H2.out.set (b := w.heap.size) (by omega) (by omega) 0 _).set (b := w.heap.size) (by omega) (by omega) 1 _).mono (by omega), ((K2.out.other (b := w.heap.size) (Nat.le_refl _) 0 _).other (b := w.heap.size) (Nat.le_refl _) 1 _)⟩
  · go_wp2_with fail
    refine (pick_any g A n cap (K + 10) xs 5 w0 _ H2.out HX.out (by omega) hg (by omega) (by omega)).mono ?_
    rintro e w3 ⟨⟨s, rfl, s0, s1⟩, hs3, hk3⟩
    have H3 := Lib.hid hs3
    have K3 := Lib.hid (K2.out.trans hk3)
    have Z3 := Lib.hid (Z2.out.kg hk3 (by omega))
    have F3 := Lib.hid (F2.out.kg hk3 (by omega))
    clear hs3 hk3 H2 K2 Z2 F2
    go_wp2_with fail
    refine (pick_any g A n cap (K + 12) xs 5 w0 _ H3.out HX.out (by omega) hg (by omega) (by omega)).mono ?_
    rintro e w4 ⟨⟨t, rfl, t0, t1⟩, hs4, hk4⟩
    have H4 := Lib.hid hs4
    have K4 := Lib.hid (K3.out.trans hk4)
    have Z4 := Lib.hid (Z3.out.kg hk4 (by omega))
    have F4 := Lib.hid (F3.out.kg hk4 (by omega))
    clear hs4 hk4 H3 K3 Z3 F3
    go_wp2_with fail
    refine (l02Make_any (1000000000 - s) (1000000000 - t) _ (by omega) (by omega) (by omega) (by omega)).mono ?_
    have b1 := tdiv_bd (1000000000 - s) (Int.gcd (1000000000 - s) (1000000000 - t) : Nat)
    have b2 := tdiv_bd (1000000000 - t) (Int.gcd (1000000000 - s) (1000000000 - t) : Nat)
    generalize (1000000000 - s).tdiv (Int.gcd (1000000000 - s) (1000000000 - t) : Nat) = p at *
    generalize (1000000000 - t).tdiv (Int.gcd (1000000000 - s) (1000000000 - t) : Nat) = q at *
    have HPQ := Lib.hid (show Rng p ∧ Rng q by unfold Rng; omega)
    clear b1 b2
    rintro e w5 ⟨rfl, hb⟩
    have H5 := Lib.hid (H4.out.below hb)
    have K5 := Lib.hid (K4.out.below hb)
    have Z5 := Lib.hid (Z4.out.below hb)
    have F5 := Lib.hid (F4.out.below hb)
    clear hb H4 K4 Z4 F4
    obtain ⟨z0, z1, zf0, zf1⟩ := Z5.out
    obtain ⟨f0, f1, ff0, ff1⟩ := F5.out
    go_wp2_with fail
    exact bodyPost_ret (v := .agg #[.int .i64 p, .int .i64 q]) (by simp [results, Tryz.results56, go_sem, pair_set ((Z5.out.set_other (c := w1.heap.size) (by omega) 0 (.int .i64 p)).set_other (c := w1.heap.size) (by omega) 1 (.int .i64 q)).1 ((Z5.out.set_other (c := w1.heap.size) (by omega) 0 (.int .i64 p)).set_other (c := w1.heap.size) (by omega) 1 (.int .i64 q)).2.1]) rfl ⟨⟨_, _, rfl, HPQ.out.1, HPQ.out.2⟩, ((((H5.out.set (b := w1.heap.size) (by omega) (by omega) 0 _).set (b := w1.heap.size) (by omega) (by omega) 1 _).set (b := w.heap.size) (by omega) (by omega) 0 _).set (b := w.heap.size) (by omega) (by omega) 1 _).mono (by omega), ((((K5.out.other (b := w1.heap.size) (by omega) 0 _).other (b := w1.heap.size) (by omega) 1 _).other (b := w.heap.size) (Nat.le_refl _) 0 _).other (b := w.heap.size) (Nat.le_refl _) 1 _)⟩
  · have e0 : (r == 0) = false := beq_eq_false_iff_ne.2 q0
    have e1 : (r == 1) = false := beq_eq_false_iff_ne.2 q1
    have e2 : (r == 2) = false := beq_eq_false_iff_ne.2 q2
    have e3 : (r == 3) = false := beq_eq_false_iff_ne.2 q3
    obtain ⟨z0, z1, zf0, zf1⟩ := Z2.out
    obtain ⟨f0, f1, ff0, ff1⟩ := F2.out
    go_wp2_with fail
    exact bodyPost_ret (v := .agg #[.int .i64 x, .int .i64 y]) (by simp [results, Tryz.results56, go_sem, pair_set Z2.out.1 Z2.out.2.1]) rfl ⟨⟨_, _, rfl, HXY.out.1, HXY.out.2⟩, ((H2.out.set (b := w.heap.size) (by omega) (by omega) 0 _).set (b := w.heap.size) (by omega) (by omega) 1 _).mono (by omega), ((K2.out.other (b := w.heap.size) (Nat.le_refl _) 0 _).other (b := w.heap.size) (Nat.le_refl _) 1 _)⟩
end Go.Proofs.YtlpglibnjmjjkaaGreatDoor
namespace Go.Proofs.YtlpglibnjmjjkaaGreatDoor
open Go.RowKit
set_option linter.unusedVariables false
set_option linter.unusedSimpArgs false
attribute [local go_sem ↓] Go.wp_at_zero Go.wp_at_succ

theorem sgn_one {v : Int} (h1 : -1000000000 ≤ v) (h2 : v ≤ 1000000000) : sgnB [(1, v)] = true := by
  unfold sgnB
  rw [Bool.and_eq_true]
  refine ⟨inB_iff.2 ⟨by simp, by simp⟩, allK_t sgnE _ 0 fun k z hk => ?_⟩
  cases k with
  | zero =>
    simp at hk; subst hk
    unfold sgnE
    rw [if_pos rfl, Bool.and_eq_true]
    exact ⟨rfl, inB_iff.2 ⟨h1, h2⟩⟩
  | succ k => simp at hk
theorem sgn_app {fs : List (Int × Int)} {s v : Int} (h : sgnB fs = true) (hl : fs.length ≤ 59) (hs : s = 1 ∨ s = -1) (h1 : 1 ≤ v) (h2 : v ≤ 1000000000) : sgnB (fs ++ [(s, v)]) = true := by
  unfold sgnB at h ⊢
  rw [Bool.and_eq_true] at h ⊢
  obtain ⟨a, b⟩ := h
  obtain ⟨a1, a2⟩ := inB_iff.1 a
  refine ⟨inB_iff.2 ⟨by simp; omega, by simp; omega⟩, allK_t sgnE _ 0 fun k z hk => ?_⟩
  rw [List.getElem?_append] at hk
  split at hk
  · exact allK_at sgnE fs 0 k z b hk
  · rename_i hj
    have hz : z = (s, v) := by
      cases hk2 : k - fs.length with
      | zero => rw [hk2] at hk; simp at hk; exact hk.symm
      | succ i => rw [hk2] at hk; simp at hk
    subst hz
    unfold sgnE psE
    rw [if_neg (by omega), Bool.and_eq_true]
    refine ⟨?_, inB_iff.2 ⟨h1, h2⟩⟩
    rcases hs with rfl | rfl <;> rfl
theorem sgn_len {fs : List (Int × Int)} (h : sgnB fs = true) : 1 ≤ fs.length ∧ fs.length ≤ 60 ∧ ∀ z ∈ fs, Rng z.1 ∧ Rng z.2 := by
  have hr := (sgn_in h).2.2
  unfold sgnB at h
  rw [Bool.and_eq_true] at h
  obtain ⟨a1, a2⟩ := inB_iff.1 h.1
  refine ⟨by omega, by omega, fun z hz => ?_⟩
  have := hr z hz
  unfold Rng; omega
theorem exs_sgn {x y kd : Int} (h : exsC x y kd = 0) : sgnB (exsL x y kd) = true := by
  have hc : cdeK x y kd = 0 := by
    rcases Decidable.em (cdeK x y kd = 0) with h0 | h0
    · exact h0
    · rw [(exs_code h0).2] at h; exact absurd h h0
  obtain ⟨e1, e2⟩ := exs_zero hc
  cases ho : exsO x y kd with
  | none => rw [e2, ho] at h; cases h
  | some l => rw [e1, ho]; exact (exsO_in ho).1
theorem prs_set1 : ∀ (zs : List (Int × Int)) (k : Nat) (p : Int × Int) (u : Int), zs[k]? = some p → (prs zs).set (k * 2) (.int .i64 u) = prs (zs.set k (u, p.2))
  | [], k, p, u, h => by simp at h
  | q :: r, 0, p, u, h => by simp at h; subst h; rfl
  | q :: r, k + 1, p, u, h => by
    have := prs_set1 r k p u (by simpa using h)
    rw [show (k + 1) * 2 = (k * 2) + 1 + 1 from by omega]
    simpa [prs] using this
theorem prs_set2 : ∀ (zs : List (Int × Int)) (k : Nat) (p : Int × Int) (u : Int), zs[k]? = some p → (prs zs).set (k * 2 + 1) (.int .i64 u) = prs (zs.set k (p.1, u))
  | [], k, p, u, h => by simp at h
  | q :: r, 0, p, u, h => by simp at h; subst h; rfl
  | q :: r, k + 1, p, u, h => by
    have := prs_set2 r k p u (by simpa using h)
    rw [show (k + 1) * 2 + 1 = (k * 2 + 1) + 1 + 1 from by omega]
    simpa [prs] using this
theorem rng_set {zs : List (Int × Int)} {k : Nat} {p : Int × Int} (h : ∀ z ∈ zs, Rng z.1 ∧ Rng z.2) (hp : Rng p.1 ∧ Rng p.2) : ∀ z ∈ zs.set k p, Rng z.1 ∧ Rng z.2 := fun z hz => by
  rcases List.mem_or_eq_of_mem_set hz with h' | h'
  · exact h z h'
  · rw [h']; exact hp
set_option maxRecDepth 100000 in
set_option maxHeartbeats 6400000 in
theorem l04Draw_any (g : Nat) (A : Option Addr) (n cap K : Nat) (xs : List Int) (w0 w : World) (h : St g A n cap K w0 w) (hx : BRow w0 A n xs) (hk : K ≤ 500) (hg : w0.heap.size ≤ g) :
    Calls Tryz.prog 71 #[.pointer (some ⟨g, 0, none⟩)] w fun e w' => (∃ (zs : List (Int × Int)) (B : Option Addr) (c : Nat), e = .returned (.slice B zs.length c) ∧ w'.ownsRow w.heap.size 86 2 (.slice B zs.length c) zs.length (prs zs) ∧ sgnB zs = true) ∧ St g A n cap (K + 60) w0 w' ∧ Kg g w w' := by
  have hgl := h.lt
  have hsz := h.2.size
  have NG := Lib.hid (show ∀ k, w.heap.size ≤ k → k ≠ g from fun k hk => by omega)
  obtain ⟨i0, hi, hz0, hz1, hz2⟩ := info_parts infoS
  have HX := Lib.hid hx
  have H := Lib.hid h
  clear hx h
  go_enter Tryz.func71, Tryz.ntmps71
  go_wp2_with fail
  refine (one_any g A n cap K xs 2 w0 w H.out HX.out (by omega) hg (by omega) (by omega)).mono ?_
  rintro e w1 ⟨⟨b, rfl⟩, hs1, hk1⟩
  have H1 := Lib.hid hs1
  have K1 := Lib.hid hk1
  clear hs1 hk1 H
  cases b
  · go_wp2_with fail
    refine (pick_any g A n cap (K + 2) xs 9 w0 w1 H1.out HX.out (by omega) hg (by omega) (by omega)).mono ?_
    rintro e w5 ⟨⟨r5, rfl, a5, b5⟩, hs5, hk5⟩
    have hb5 : w.heap.size ≤ w5.heap.size := (K1.out.trans hk5).1
    have hA : Below w5.heap.size w5 (w5.alloc (.cells #[.int .i64 1, .int .i64 (r5 - 4)] 86)) := (Below.refl _ _).alloc (Nat.le_refl _) _
    have H5 := Lib.hid (hs5.below hA)
    have K5 := Lib.hid ((K1.out.trans hk5).below hA)
    have O5 := Lib.hid (show (w5.alloc (.cells #[.int .i64 1, .int .i64 (r5 - 4)] 86)).ownsRow w.heap.size 86 2 (.slice (some ⟨w5.heap.size, 0, none⟩) 1 1) 1 (prs [(1, r5 - 4)]) from ⟨by simp [prs], .inr ⟨w5.heap.size, 1, #[.int .i64 1, .int .i64 (r5 - 4)], rfl, hb5, heap_alloc_new w5 _, Nat.le_refl _, by decide, rfl, by simp [prs]⟩⟩)
    have S5 := Lib.hid (sgn_one (v := r5 - 4) (by omega) (by omega))
    clear hs5 hk5 hA H1 K1
    go_wp2_with fail
    refine (pick_any g A n cap (K + 2 + 2) xs 7 w0 _ H5.out HX.out (by omega) hg (by omega) (by omega)).mono ?_
    rintro e w6 ⟨⟨r6, rfl, a6, b6⟩, hs6, hk6⟩
    obtain ⟨q, rfl⟩ := Int.eq_ofNat_of_zero_le a6
    have hq : q ≤ 6 := by omega
    have hb6 : w.heap.size ≤ w6.heap.size := by have := hk6.1; simp at this; omega
    have O6 := Lib.hid (own_kg O5.out hk6 hgl)
    have H6 := Lib.hid hs6
    have K6 := Lib.hid (K5.out.trans hk6)
    clear hs6 hk6 H5 K5 O5 a6 b6
    go_wp2_with fail
    go_loopw [7, 8, 9] (fun l u _ wr => ∃ (k r K' c : Nat) (B : Option Addr) (fs : List (Int × Int)), l = .slice B k c ∧ u = .int .i64 (r : Int) ∧ 1 ≤ k ∧ k + r ≤ 7 ∧ K' + 4 * r ≤ K + 44 ∧
      wr.ownsRow w.heap.size 86 2 (.slice B k c) k (prs fs) ∧ St g A n cap K' w0 wr ∧ Kg g w wr ∧ Hid (sgnB fs = true)) (fun _ u _ _ => (intOf u).toNat)
    case atStart => exact ⟨1, q, K + 2 + 4, 1, _, [(1, r5 - 4)], rfl, rfl, by omega, by omega, by omega, O6.out, H6.out, K6.out, S5.out⟩
    case round =>
      obtain ⟨k, r, K', c, B, fs, rfl, rfl, hk1, hkr, hK, hown, hst, hkg, HD⟩ := hrel
      have H10 := Lib.hid hst
      have O10 := Lib.hid hown
      have K10 := Lib.hid hkg
      have l10 := hkg.1
      clear hown hst hkg
      by_cases hr0 : r = 0
      · subst hr0
        have HLn := Lib.hid (own_lenP O10.out)
        go_wp2_with fail
        go_ret
        have hl := HLn.out
        subst hl
        exact ⟨⟨fs, B, c, rfl, O10.out, HD.out⟩, H10.out.mono (by omega), K10.out⟩
      · have hr1 : (0 : Int) < (r : Int) := by omega
        go_wp2_with fail
        refine (pick_any g A n cap _ xs 5 w0 _ H10.out HX.out (by omega) hg (by omega) (by omega)).mono ?_
        rintro e w11 ⟨⟨t, rfl, b1, b2⟩, hs11, hk11⟩
        have hA : Below w11.heap.size w11 (w11.alloc (.cells #[.int .i64 1, .int .i64 (1 + t)] 86)) := (Below.refl _ _).alloc (Nat.le_refl _) _
        have hgs : g < w11.heap.size := hs11.lt
        have H11 := Lib.hid (hs11.below hA)
        have l11 : w.heap.size ≤ w11.heap.size := Nat.le_trans l10 hk11.1
        have o11 := own_kg O10.out hk11 hgl
        have F11 := Lib.hid o11.lt
        have O11 := Lib.hid (own_below o11 hA)
        have K11 := Lib.hid ((K10.out.trans hk11).below hA)
        have P11 := Lib.hid (Pr.new w11 1 (1 + t) 86)
        clear hs11 hk11 H10 O10 K10 o11 hA
        go_wp2_with fail
        refine (one_any g A n cap _ xs 3 w0 _ H11.out HX.out (by omega) hg (by omega) (by omega)).mono ?_
        rintro e w12 ⟨⟨x, rfl⟩, hs12, hk12⟩
        have l12 : w11.heap.size < w12.heap.size := by have := hk12.1; simp at this; omega
        have H12 := Lib.hid hs12
        have O12 := Lib.hid (own_kg O11.out hk12 hgl)
        have K12 := Lib.hid (K11.out.trans hk12)
        have P12 := Lib.hid (P11.out.kg hk12 (by omega))
        have hrb : 1 ≤ 1 + t ∧ 1 + t ≤ 1000000000 := by omega
        have HLn := Lib.hid (own_lenP O12.out)
        clear hs12 hk12 H11 O11 K11 P11
        obtain ⟨p0, p1, pf0, pf1⟩ := P12.out
        cases x
        · have LF := Lib.hid O12.out.lt
          go_wp2_with (first | (at_builtin; refine wpList_append_lies _ rfl (.tmp 44) (.tmp 46) 46 rfl w.heap.size 86 i0 (.agg #[.int .i64 0, .int .i64 0]) 2 16 Tryz.underlying46 hi hz0 hz1 hz2 rfl (by decide) _ k (prs fs) (by rfl) (O12.out.alloc _) ⟨w12.heap.size, 0, none⟩ 1 1 [.int .i64 1, .int .i64 (1 + t)] (by rfl) rfl ?cells (by simp [Value.oneCell']) (by decide) (by show k + 1 ≤ 9223372036854775807; omega) (by omega) (by simp; omega) (w12.heap.size + 1) (by simp) ?_; rotate_left; intro g cap1 wn hown1 hgrow hat hlt1))
          case cells => exact fun j u hu => newcell (by simp) hu
          rw [show prs fs ++ [Value.int .i64 1, .int .i64 (1 + t)] = prs (fs ++ [(1, 1 + t)]) from by rw [prs_append]; rfl] at hown1
          go_roundw
          case rel =>
            exact ⟨k + 1, r - 1, K' + 4, _, _, fs ++ [(1, 1 + t)], rfl, by congr 1; omega, by omega, by omega, by omega, hown1, ((H12.out.alloc _).grown hgrow (fun e => NG.out _ (LF.out _ e).1 rfl) (fun k hk => by have := (LF.out k hk).1; omega)).mono (by omega), (K12.out.alloc _).grown hgrow (fun k hk => (LF.out k hk).1), sgn_app HD.out (by rw [HLn.out]; omega) (by omega) hrb.1 hrb.2⟩
          case measure => simp [intOf]; omega
        · have O13 := Lib.hid (own_set_other O12.out (p := ⟨w11.heap.size, 0, none⟩) (fun e => by have := (F11.out _ e).2; simp at this) (.int .i64 (-1)))
          have H13 := Lib.hid (H12.out.set (b := w11.heap.size) (by omega) (by have := H12.out.2.size; have := hsz; omega) 0 (.int .i64 (-1)))
          have K13 := Lib.hid (K12.out.other (b := w11.heap.size) l11 0 (.int .i64 (-1)))
          have LF := Lib.hid O13.out.lt
          go_wp2_with (first | (at_builtin; refine wpList_append_lies _ rfl (.tmp 44) (.tmp 46) 46 rfl w.heap.size 86 i0 (.agg #[.int .i64 0, .int .i64 0]) 2 16 Tryz.underlying46 hi hz0 hz1 hz2 rfl (by decide) _ k (prs fs) (by rfl) (O13.out.alloc _) ⟨w12.heap.size, 0, none⟩ 1 1 [.int .i64 (-1), .int .i64 (1 + t)] (by rfl) rfl ?cells (by simp [Value.oneCell']) (by decide) (by show k + 1 ≤ 9223372036854775807; omega) (by omega) (by simp; omega) (w12.heap.size + 1) (by simp) ?_; rotate_left; intro g cap1 wn hown1 hgrow hat hlt1))
          case cells => exact fun j u hu => newcell (by simp) hu
          rw [show prs fs ++ [Value.int .i64 (-1), .int .i64 (1 + t)] = prs (fs ++ [((-1), 1 + t)]) from by rw [prs_append]; rfl] at hown1
          go_roundw
          case rel =>
            exact ⟨k + 1, r - 1, K' + 4, _, _, fs ++ [((-1), 1 + t)], rfl, by congr 1; omega, by omega, by omega, by omega, hown1, ((H13.out.alloc _).grown hgrow (fun e => NG.out _ (LF.out _ e).1 rfl) (fun k hk => by have := (LF.out k hk).1; omega)).mono (by omega), (K13.out.alloc _).grown hgrow (fun k hk => (LF.out k hk).1), sgn_app HD.out (by rw [HLn.out]; omega) (by omega) hrb.1 hrb.2⟩
          case measure => simp [intOf]; omega
  · go_wp2_with fail
    refine (l02Draw_200 g A n cap (K + 2) xs w0 w1 H1.out HX.out (by omega) hg).mono ?_
    rintro e w2 ⟨⟨x, y, rfl, hd⟩, hs2, hk2⟩
    have H2 := Lib.hid (hs2.alloc (.cells #[.int .i64 x, .int .i64 y] 25))
    have K2 := Lib.hid ((K1.out.trans hk2).alloc (.cells #[.int .i64 x, .int .i64 y] 25))
    have F2 := Lib.hid (Pr.new w2 x y 25)
    have hg2 : g < w2.heap.size := hs2.lt
    clear hs2 hk2 H1 K1 hd
    go_wp2_with fail
    refine (pick_any g A n cap (K + 10) xs 4 w0 _ H2.out HX.out (by omega) hg (by omega) (by omega)).mono ?_
    rintro e w3 ⟨⟨kd, rfl, d0, d1⟩, hs3, hk3⟩
    have H3 := Lib.hid hs3
    have K3 := Lib.hid (K2.out.trans hk3)
    have F3 := Lib.hid (F2.out.kg hk3 (by omega))
    clear hs3 hk3 H2 K2 F2
    obtain ⟨f0, f1, _, _⟩ := F3.out
    have HE := Lib.hid (fun W => specExs_any x y (1 + kd) W)
    unfold ResS at HE
    by_cases hc : exsC x y (1 + kd) = 0
    · have S4 := Lib.hid (exs_sgn hc)
      rw [hc] at HE
      generalize exsL x y (1 + kd) = fs at *
      clear hc
      go_wp2_with fail
      refine (HE.out _).mono ?_
      rintro e w4 ⟨⟨B, c, rfl, ho⟩, hb⟩
      have O4 := Lib.hid (own_base ho K3.out.1)
      have H4 := Lib.hid (H3.out.below hb)
      have K4 := Lib.hid (K3.out.below hb)
      clear ho hb H3 K3
      go_wp2_with fail
      go_ret
      exact ⟨⟨fs, B, c, rfl, O4.out, S4.out⟩, H4.out.mono (by omega), K4.out⟩
    · have hcb : (exsC x y (1 + kd) == 0) = false := beq_eq_false_iff_ne.2 hc
      generalize exsC x y (1 + kd) = cc at *
      generalize exsL x y (1 + kd) = fs at *
      go_wp2_with fail
      refine (HE.out _).mono ?_
      rintro e w4 ⟨⟨B, c, rfl, ho⟩, hb⟩
      have H4 := Lib.hid (H3.out.below hb)
      have K4 := Lib.hid (K3.out.below hb)
      clear ho hb H3 K3 f0 f1 F3
      go_wp2_with fail
      refine (pick_any g A n cap (K + 12) xs 9 w0 w4 H4.out HX.out (by omega) hg (by omega) (by omega)).mono ?_
      rintro e w5 ⟨⟨r5, rfl, a5, b5⟩, hs5, hk5⟩
      have hb5 : w.heap.size ≤ w5.heap.size := (K4.out.trans hk5).1
      have hA : Below w5.heap.size w5 (w5.alloc (.cells #[.int .i64 1, .int .i64 (r5 - 4)] 86)) := (Below.refl _ _).alloc (Nat.le_refl _) _
      have H5 := Lib.hid (hs5.below hA)
      have K5 := Lib.hid ((K4.out.trans hk5).below hA)
      have O5 := Lib.hid (show (w5.alloc (.cells #[.int .i64 1, .int .i64 (r5 - 4)] 86)).ownsRow w.heap.size 86 2 (.slice (some ⟨w5.heap.size, 0, none⟩) 1 1) 1 (prs [(1, r5 - 4)]) from ⟨by simp [prs], .inr ⟨w5.heap.size, 1, #[.int .i64 1, .int .i64 (r5 - 4)], rfl, hb5, heap_alloc_new w5 _, Nat.le_refl _, by decide, rfl, by simp [prs]⟩⟩)
      have S5 := Lib.hid (sgn_one (v := r5 - 4) (by omega) (by omega))
      clear hs5 hk5 hA H4 K4
      go_wp2_with fail
      refine (pick_any g A n cap (K + 12 + 2) xs 7 w0 _ H5.out HX.out (by omega) hg (by omega) (by omega)).mono ?_
      rintro e w6 ⟨⟨r6, rfl, a6, b6⟩, hs6, hk6⟩
      obtain ⟨q, rfl⟩ := Int.eq_ofNat_of_zero_le a6
      have hq : q ≤ 6 := by omega
      have hb6 : w.heap.size ≤ w6.heap.size := by have := hk6.1; simp at this; omega
      have O6 := Lib.hid (own_kg O5.out hk6 hgl)
      have H6 := Lib.hid hs6
      have K6 := Lib.hid (K5.out.trans hk6)
      clear hs6 hk6 H5 K5 O5 a6 b6
      go_wp2_with fail
      go_loopw [7, 8, 9] (fun l u _ wr => ∃ (k r K' c : Nat) (B : Option Addr) (fs : List (Int × Int)), l = .slice B k c ∧ u = .int .i64 (r : Int) ∧ 1 ≤ k ∧ k + r ≤ 7 ∧ K' + 4 * r ≤ K + 44 ∧
        wr.ownsRow w.heap.size 86 2 (.slice B k c) k (prs fs) ∧ St g A n cap K' w0 wr ∧ Kg g w wr ∧ Hid (sgnB fs = true)) (fun _ u _ _ => (intOf u).toNat)
      case atStart => exact ⟨1, q, K + 12 + 4, 1, _, [(1, r5 - 4)], rfl, rfl, by omega, by omega, by omega, O6.out, H6.out, K6.out, S5.out⟩
      case round =>
        obtain ⟨k, r, K', c, B, fs, rfl, rfl, hk1, hkr, hK, hown, hst, hkg, HD⟩ := hrel
        have H10 := Lib.hid hst
        have O10 := Lib.hid hown
        have K10 := Lib.hid hkg
        have l10 := hkg.1
        clear hown hst hkg
        by_cases hr0 : r = 0
        · subst hr0
          have HLn := Lib.hid (own_lenP O10.out)
          go_wp2_with fail
          go_ret
          have hl := HLn.out
          subst hl
          exact ⟨⟨fs, B, c, rfl, O10.out, HD.out⟩, H10.out.mono (by omega), K10.out⟩
        · have hr1 : (0 : Int) < (r : Int) := by omega
          go_wp2_with fail
          refine (pick_any g A n cap _ xs 5 w0 _ H10.out HX.out (by omega) hg (by omega) (by omega)).mono ?_
          rintro e w11 ⟨⟨t, rfl, b1, b2⟩, hs11, hk11⟩
          have hA : Below w11.heap.size w11 (w11.alloc (.cells #[.int .i64 1, .int .i64 (1 + t)] 86)) := (Below.refl _ _).alloc (Nat.le_refl _) _
          have hgs : g < w11.heap.size := hs11.lt
          have H11 := Lib.hid (hs11.below hA)
          have l11 : w.heap.size ≤ w11.heap.size := Nat.le_trans l10 hk11.1
          have o11 := own_kg O10.out hk11 hgl
          have F11 := Lib.hid o11.lt
          have O11 := Lib.hid (own_below o11 hA)
          have K11 := Lib.hid ((K10.out.trans hk11).below hA)
          have P11 := Lib.hid (Pr.new w11 1 (1 + t) 86)
          clear hs11 hk11 H10 O10 K10 o11 hA
          go_wp2_with fail
          refine (one_any g A n cap _ xs 3 w0 _ H11.out HX.out (by omega) hg (by omega) (by omega)).mono ?_
          rintro e w12 ⟨⟨x, rfl⟩, hs12, hk12⟩
          have l12 : w11.heap.size < w12.heap.size := by have := hk12.1; simp at this; omega
          have H12 := Lib.hid hs12
          have O12 := Lib.hid (own_kg O11.out hk12 hgl)
          have K12 := Lib.hid (K11.out.trans hk12)
          have P12 := Lib.hid (P11.out.kg hk12 (by omega))
          have hrb : 1 ≤ 1 + t ∧ 1 + t ≤ 1000000000 := by omega
          have HLn := Lib.hid (own_lenP O12.out)
          clear hs12 hk12 H11 O11 K11 P11
          obtain ⟨p0, p1, pf0, pf1⟩ := P12.out
          cases x
          · have LF := Lib.hid O12.out.lt
            go_wp2_with (first | (at_builtin; refine wpList_append_lies _ rfl (.tmp 44) (.tmp 46) 46 rfl w.heap.size 86 i0 (.agg #[.int .i64 0, .int .i64 0]) 2 16 Tryz.underlying46 hi hz0 hz1 hz2 rfl (by decide) _ k (prs fs) (by rfl) (O12.out.alloc _) ⟨w12.heap.size, 0, none⟩ 1 1 [.int .i64 1, .int .i64 (1 + t)] (by rfl) rfl ?cells (by simp [Value.oneCell']) (by decide) (by show k + 1 ≤ 9223372036854775807; omega) (by omega) (by simp; omega) (w12.heap.size + 1) (by simp) ?_; rotate_left; intro g cap1 wn hown1 hgrow hat hlt1))
            case cells => exact fun j u hu => newcell (by simp) hu
            rw [show prs fs ++ [Value.int .i64 1, .int .i64 (1 + t)] = prs (fs ++ [(1, 1 + t)]) from by rw [prs_append]; rfl] at hown1
            go_roundw
            case rel =>
              exact ⟨k + 1, r - 1, K' + 4, _, _, fs ++ [(1, 1 + t)], rfl, by congr 1; omega, by omega, by omega, by omega, hown1, ((H12.out.alloc _).grown hgrow (fun e => NG.out _ (LF.out _ e).1 rfl) (fun k hk => by have := (LF.out k hk).1; omega)).mono (by omega), (K12.out.alloc _).grown hgrow (fun k hk => (LF.out k hk).1), sgn_app HD.out (by rw [HLn.out]; omega) (by omega) hrb.1 hrb.2⟩
            case measure => simp [intOf]; omega
          · have O13 := Lib.hid (own_set_other O12.out (p := ⟨w11.heap.size, 0, none⟩) (fun e => by have := (F11.out _ e).2; simp at this) (.int .i64 (-1)))
            have H13 := Lib.hid (H12.out.set (b := w11.heap.size) (by omega) (by have := H12.out.2.size; have := hsz; omega) 0 (.int .i64 (-1)))
            have K13 := Lib.hid (K12.out.other (b := w11.heap.size) l11 0 (.int .i64 (-1)))
            have LF := Lib.hid O13.out.lt
            go_wp2_with (first | (at_builtin; refine wpList_append_lies _ rfl (.tmp 44) (.tmp 46) 46 rfl w.heap.size 86 i0 (.agg #[.int .i64 0, .int .i64 0]) 2 16 Tryz.underlying46 hi hz0 hz1 hz2 rfl (by decide) _ k (prs fs) (by rfl) (O13.out.alloc _) ⟨w12.heap.size, 0, none⟩ 1 1 [.int .i64 (-1), .int .i64 (1 + t)] (by rfl) rfl ?cells (by simp [Value.oneCell']) (by decide) (by show k + 1 ≤ 9223372036854775807; omega) (by omega) (by simp; omega) (w12.heap.size + 1) (by simp) ?_; rotate_left; intro g cap1 wn hown1 hgrow hat hlt1))
            case cells => exact fun j u hu => newcell (by simp) hu
            rw [show prs fs ++ [Value.int .i64 (-1), .int .i64 (1 + t)] = prs (fs ++ [((-1), 1 + t)]) from by rw [prs_append]; rfl] at hown1
            go_roundw
            case rel =>
              exact ⟨k + 1, r - 1, K' + 4, _, _, fs ++ [((-1), 1 + t)], rfl, by congr 1; omega, by omega, by omega, by omega, hown1, ((H13.out.alloc _).grown hgrow (fun e => NG.out _ (LF.out _ e).1 rfl) (fun k hk => by have := (LF.out k hk).1; omega)).mono (by omega), (K13.out.alloc _).grown hgrow (fun k hk => (LF.out k hk).1), sgn_app HD.out (by rw [HLn.out]; omega) (by omega) hrb.1 hrb.2⟩
            case measure => simp [intOf]; omega
end Go.Proofs.YtlpglibnjmjjkaaGreatDoor
