/-
  Three drawn fractions: contract of the reference's A2Fractions.
  No condition but those of the law's own text.
-/
import Derived.Test.YtnikogholldcmaaDoorProg
import Derived.Test.YtnikogholldcmaaDoorMem
import Derived.Test.YtnikogholldcmaaDoorBasic
import Derived.Test.YtnikogholldcmaaDoorSig
import Derived.Test.YtnikogholldcmaaDoorFrac
import Derived.Test.YtnikogholldcmaaDoorOwn
import Derived.Test.YtnikogholldcmaaDoorSrc
import Derived.Handy
import Derived.BigQuiet
import Derived.RegionTactic
import Derived.BigRegion
import Derived.Deep.QuietTactic
import Derived.Deep.RegionHeld3
import Derived.Deep.DeepCutAuto
namespace Go.Proofs.YtnikogholldcmaaDoor
open Go.RowKit
set_option linter.unusedVariables false
set_option linter.unusedSimpArgs false
attribute [local go_sem ↓] Go.wp_at_zero Go.wp_at_succ

/-- Two cells of a block that lies apart from the source. -/
def Pr (w : World) (b : Nat) (x y : Int) : Prop := w.cell? ⟨b, 0, none⟩ = some (.int .i64 x) ∧ w.cell? ⟨b, 1, none⟩ = some (.int .i64 y) ∧ w.frozen? ⟨b, 0, none⟩ = false ∧ w.frozen? ⟨b, 1, none⟩ = false
theorem Pr.lt {w : World} {b : Nat} {x y : Int} (h : Pr w b x y) : b < w.heap.size := World.block_lt_of_cell? w _ h.1
theorem Pr.kg {g : Nat} {w w1 : World} {b : Nat} {x y : Int} (h : Pr w b x y) (hk : Kg g w w1) (hb : b ≠ g) : Pr w1 b x y :=
  ⟨(hk.cell (p := ⟨b, 0, none⟩) h.lt hb).trans h.1, (hk.cell (p := ⟨b, 1, none⟩) h.lt hb).trans h.2.1, (hk.frozen (p := ⟨b, 0, none⟩) h.lt hb).trans h.2.2.1, (hk.frozen (p := ⟨b, 1, none⟩) h.lt hb).trans h.2.2.2⟩
theorem Pr.below {w w1 : World} {b : Nat} {x y : Int} (h : Pr w b x y) (hb : Below w.heap.size w w1) : Pr w1 b x y :=
  ⟨(hb.cell (p := ⟨b, 0, none⟩) h.lt).trans h.1, (hb.cell (p := ⟨b, 1, none⟩) h.lt).trans h.2.1, (hb.frozen (p := ⟨b, 0, none⟩) h.lt).trans h.2.2.1, (hb.frozen (p := ⟨b, 1, none⟩) h.lt).trans h.2.2.2⟩
theorem Pr.drew {w : World} {b : Nat} {x y : Int} (h : Pr w b x y) : Pr w.drew b x y := h
theorem Pr.new (w : World) (x y : Int) (t : TypeId) : Pr (w.alloc (.cells #[.int .i64 x, .int .i64 y] t)) w.heap.size x y := ⟨newcellA rfl rfl, newcellA rfl rfl, by simp, by simp⟩
theorem St.drew {g : Nat} {A : Option Addr} {n cap K : Nat} {w0 w : World} (h : St g A n cap K w0 w) : St g A n cap K w0 w.drew := ⟨h.1, h.2.drew⟩
theorem St.alloc {g : Nat} {A : Option Addr} {n cap K : Nat} {w0 w : World} (h : St g A n cap K w0 w) (o : Obj) : St g A n cap K w0 (w.alloc o) := h.below ((Below.refl _ _).alloc (Nat.le_refl _) o)

theorem s4_set {W : World} {b1 b2 b : Nat} {x y z u : Value} (h : W.cell? ⟨b1, 0, none⟩ = some x ∧ W.cell? ⟨b1, 1, none⟩ = some y ∧ W.cell? ⟨b2, 0, none⟩ = some z ∧ W.cell? ⟨b2, 1, none⟩ = some u) (h1 : b < b1) (h2 : b < b2) (s t : Value) :
    ((W.setCell ⟨b, 0, none⟩ s).setCell ⟨b, 1, none⟩ t).cell? ⟨b1, 0, none⟩ = some x ∧ ((W.setCell ⟨b, 0, none⟩ s).setCell ⟨b, 1, none⟩ t).cell? ⟨b1, 1, none⟩ = some y ∧ ((W.setCell ⟨b, 0, none⟩ s).setCell ⟨b, 1, none⟩ t).cell? ⟨b2, 0, none⟩ = some z ∧ ((W.setCell ⟨b, 0, none⟩ s).setCell ⟨b, 1, none⟩ t).cell? ⟨b2, 1, none⟩ = some u := by
  have e : ∀ c, b < c → ∀ j k, (⟨b, j, none⟩ : Addr) ≠ ⟨c, k, none⟩ := fun c hc j k e => by injection e with e; omega
  exact ⟨setO (e _ h1 _ _) (setO (e _ h1 _ _) h.1), setO (e _ h1 _ _) (setO (e _ h1 _ _) h.2.1), setO (e _ h2 _ _) (setO (e _ h2 _ _) h.2.2.1), setO (e _ h2 _ _) (setO (e _ h2 _ _) h.2.2.2)⟩

theorem s6 {W : World} {b : Nat} {u0 u1 u2 u3 u4 u5 v0 v1 v2 v3 v4 v5 : Value} (a0 : W.cell? ⟨b, 0, none⟩ = some u0) (a1 : W.cell? ⟨b, 1, none⟩ = some u1) (a2 : W.cell? ⟨b + 1, 0, none⟩ = some u2) (a3 : W.cell? ⟨b + 1, 1, none⟩ = some u3)
    (a4 : W.cell? ⟨b + 1 + 1, 0, none⟩ = some u4) (a5 : W.cell? ⟨b + 1 + 1, 1, none⟩ = some u5) :
    let X := (((((W.setCell ⟨b, 0, none⟩ v0).setCell ⟨b, 1, none⟩ v1).setCell ⟨b + 1, 0, none⟩ v2).setCell ⟨b + 1, 1, none⟩ v3).setCell ⟨b + 1 + 1, 0, none⟩ v4).setCell ⟨b + 1 + 1, 1, none⟩ v5
    X.cell? ⟨b, 0, none⟩ = some v0 ∧ X.cell? ⟨b, 1, none⟩ = some v1 ∧ X.cell? ⟨b + 1, 0, none⟩ = some v2 ∧ X.cell? ⟨b + 1, 1, none⟩ = some v3 ∧ X.cell? ⟨b + 1 + 1, 0, none⟩ = some v4 ∧ X.cell? ⟨b + 1 + 1, 1, none⟩ = some v5 := by
  intro X
  have e : ∀ c d j k, c ≠ d ∨ j ≠ k → (⟨c, j, none⟩ : Addr) ≠ ⟨d, k, none⟩ := fun c d j k h e => by injection e with e1 e2; omega
  refine ⟨?_, ?_, ?_, ?_, ?_, ?_⟩
  · exact setO (e _ _ _ _ (by omega)) (setO (e _ _ _ _ (by omega)) (setO (e _ _ _ _ (by omega)) (setO (e _ _ _ _ (by omega)) (setO (e _ _ _ _ (by omega)) (setS a0)))))
  · exact setO (e _ _ _ _ (by omega)) (setO (e _ _ _ _ (by omega)) (setO (e _ _ _ _ (by omega)) (setO (e _ _ _ _ (by omega)) (setS (setO (e _ _ _ _ (by omega)) a1)))))
  · exact setO (e _ _ _ _ (by omega)) (setO (e _ _ _ _ (by omega)) (setO (e _ _ _ _ (by omega)) (setS (setO (e _ _ _ _ (by omega)) (setO (e _ _ _ _ (by omega)) a2)))))
  · exact setO (e _ _ _ _ (by omega)) (setO (e _ _ _ _ (by omega)) (setS (setO (e _ _ _ _ (by omega)) (setO (e _ _ _ _ (by omega)) (setO (e _ _ _ _ (by omega)) a3)))))
  · exact setO (e _ _ _ _ (by omega)) (setS (setO (e _ _ _ _ (by omega)) (setO (e _ _ _ _ (by omega)) (setO (e _ _ _ _ (by omega)) (setO (e _ _ _ _ (by omega)) a4)))))
  · exact setS (setO (e _ _ _ _ (by omega)) (setO (e _ _ _ _ (by omega)) (setO (e _ _ _ _ (by omega)) (setO (e _ _ _ _ (by omega)) (setO (e _ _ _ _ (by omega)) a5)))))

set_option maxHeartbeats 1600000 in
theorem a2Fractions_any (A : Option Addr) (n cap : Nat) (xs : List Int) (w : World) (hx : BRow w A n xs) :
    Calls Tryd.prog 42 #[.slice A n cap] w fun e w' => (∃ x1 y1 x2 y2 x3 y3 : Int, e = .returned (.tuple #[.agg #[.int .i64 x1, .int .i64 y1], .agg #[.int .i64 x2, .int .i64 y2], .agg #[.int .i64 x3, .int .i64 y3]]) ∧ DrwF x1 y1 ∧ DrwF x2 y2 ∧ DrwF x3 y3) ∧ Below w.heap.size w w' := by
  obtain ⟨w0, hw0⟩ : ∃ w0, w0 = ((w.alloc (.cells #[.int .i64 0, .int .i64 0] 33)).alloc (.cells #[.int .i64 0, .int .i64 0] 33)).alloc (.cells #[.int .i64 0, .int .i64 0] 33) := ⟨_, rfl⟩
  have hB0 : Below w.heap.size w w0 := by rw [hw0]; exact (((Below.refl _ _).alloc (Nat.le_refl _) _).alloc (by simp) _).alloc (by simp; omega) _
  have hS0 : w0.heap.size = w.heap.size + 3 := by rw [hw0]; simp
  have hP1 : Pr w0 w.heap.size 0 0 := by rw [hw0]; exact ((Pr.new w 0 0 _).below ((Below.refl _ _).alloc (Nat.le_refl _) _)).below ((Below.refl _ _).alloc (Nat.le_refl _) _)
  have hP2 : Pr w0 (w.heap.size + 1) 0 0 := by
    have h := ((Pr.new (w.alloc (.cells #[.int .i64 0, .int .i64 0] 33)) 0 0 33).below ((Below.refl _ _).alloc (Nat.le_refl _) (.cells #[.int .i64 0, .int .i64 0] 33)))
    rw [hw0]; simpa using h
  have hP3 : Pr w0 (w.heap.size + 1 + 1) 0 0 := by
    have h := Pr.new ((w.alloc (.cells #[.int .i64 0, .int .i64 0] 33)).alloc (.cells #[.int .i64 0, .int .i64 0] 33)) 0 0 33
    rw [hw0]; simpa using h
  have HX := Lib.hid (hx.below hB0)
  have hl0 : w.heap.size + 2 < w0.heap.size := by omega
  have HW := Lib.hid hw0.symm
  have HS := Lib.hid hS0
  have HP1 := Lib.hid hP1
  have HP2 := Lib.hid hP2
  have HP3 := Lib.hid hP3
  clear hw0 hS0 hP1 hP2 hP3 hx
  go_enter Tryd.func42, Tryd.ntmps42
  go_wp2_with fail
  rw [HW.out]
  refine (l00From_any A n cap w0).mono ?_
  rintro e w1 ⟨rfl, hs1⟩
  have hb1 : Below w0.heap.size w0 w1 := hs1.2
  have H1 := Lib.hid hs1
  have P11 := Lib.hid (HP1.out.below hb1)
  have P21 := Lib.hid (HP2.out.below hb1)
  have P31 := Lib.hid (HP3.out.below hb1)
  clear hs1 hb1
  go_wp2_with fail
  refine (l02Draw_any w0.heap.size A n cap 0 xs w0 w1 H1.out HX.out (by omega) (Nat.le_refl _)).mono ?_
  rintro e w2 ⟨⟨x1, y1, rfl, hd1⟩, hs2, hk2⟩
  have D1 := Lib.hid hd1
  have H2 := Lib.hid (hs2.alloc (.cells #[.int .i64 x1, .int .i64 y1] 33))
  have hA2 := (Kg.refl w0.heap.size w2).below ((Below.refl _ _).alloc (Nat.le_refl _) (.cells #[.int .i64 x1, .int .i64 y1] 33))
  have P12 := Lib.hid ((P11.out.kg hk2 (by have := HS.out; omega)).kg hA2 (by have := HS.out; omega))
  have P22 := Lib.hid ((P21.out.kg hk2 (by have := HS.out; omega)).kg hA2 (by have := HS.out; omega))
  have P32 := Lib.hid ((P31.out.kg hk2 (by have := HS.out; omega)).kg hA2 (by have := HS.out; omega))
  have Q12 := Lib.hid (Pr.new w2 x1 y1 33)
  have hl2 : w0.heap.size < w2.heap.size := hs2.lt
  clear hd1 hs2 hk2 hA2 H1 P11 P21 P31 HP1 HP2 HP3
  go_wp2_with fail
  refine (l02Draw_any w0.heap.size A n cap 8 xs w0 _ H2.out HX.out (by omega) (Nat.le_refl _)).mono ?_
  rintro e w3 ⟨⟨x2, y2, rfl, hd2⟩, hs3, hk3⟩
  have D2 := Lib.hid hd2
  have H3 := Lib.hid (hs3.alloc (.cells #[.int .i64 x2, .int .i64 y2] 33))
  have hA3 := (Kg.refl w0.heap.size w3).below ((Below.refl _ _).alloc (Nat.le_refl _) (.cells #[.int .i64 x2, .int .i64 y2] 33))
  have P13 := Lib.hid ((P12.out.kg hk3 (by have := HS.out; omega)).kg hA3 (by have := HS.out; omega))
  have P23 := Lib.hid ((P22.out.kg hk3 (by have := HS.out; omega)).kg hA3 (by have := HS.out; omega))
  have P33 := Lib.hid ((P32.out.kg hk3 (by have := HS.out; omega)).kg hA3 (by have := HS.out; omega))
  have Q13 := Lib.hid ((Q12.out.kg hk3 (by omega)).kg hA3 (by omega))
  have Q23 := Lib.hid (Pr.new w3 x2 y2 33)
  have hl3 : w2.heap.size < w3.heap.size := by have := hk3.1; simp at this; omega
  clear hd2 hs3 hk3 hA3 H2 P12 P22 P32 Q12
  go_wp2_with fail
  have hl4 : w3.heap.size < (w3.alloc (.cells #[.int .i64 x2, .int .i64 y2] 33)).heap.size := by simp
  generalize w3.alloc (.cells #[.int .i64 x2, .int .i64 y2] 33) = wq at *
  replace P13 := Lib.hid P13.out.drew
  replace P23 := Lib.hid P23.out.drew
  replace P33 := Lib.hid P33.out.drew
  replace Q13 := Lib.hid Q13.out.drew
  replace Q23 := Lib.hid Q23.out.drew
  replace H3 := Lib.hid H3.out.drew
  have R13 := Lib.hid (show wq.cell? ⟨w2.heap.size, 0, none⟩ = some (.int .i64 x1) ∧ wq.cell? ⟨w2.heap.size, 1, none⟩ = some (.int .i64 y1) ∧ wq.cell? ⟨w3.heap.size, 0, none⟩ = some (.int .i64 x2) ∧ wq.cell? ⟨w3.heap.size, 1, none⟩ = some (.int .i64 y2) from ⟨Q13.out.1, Q13.out.2.1, Q23.out.1, Q23.out.2.1⟩)
  go_region_held3 (fun w' => w'.cell? ⟨w2.heap.size, 0, none⟩ = some (.int .i64 x1) ∧ w'.cell? ⟨w2.heap.size, 1, none⟩ = some (.int .i64 y1) ∧ w'.cell? ⟨w3.heap.size, 0, none⟩ = some (.int .i64 x2) ∧ w'.cell? ⟨w3.heap.size, 1, none⟩ = some (.int .i64 y2))
    (first | exact s4_set (by assumption) (by omega) (by omega) _ _ | exact ⟨Q14.out.1, Q14.out.2.1, Q24.out.1, Q24.out.2.1⟩ | exact ⟨Q13.out.1, Q13.out.2.1, Q23.out.1, Q23.out.2.1⟩ | exact R13.out)
    (first | (go_at_call 81; refine (l02Draw_any w0.heap.size A n cap 16 xs w0 _ H3.out HX.out (by omega) (Nat.le_refl _)).mono ?_; rintro e w4 ⟨⟨x3, y3, rfl, hd3⟩, hs4, hk4⟩; have D3 := Lib.hid hd3; have HB4 := Lib.hid hs4.2; have Q14 := Lib.hid (Q13.out.kg hk4 (by omega)); have Q24 := Lib.hid (Q23.out.kg hk4 (by omega)); obtain ⟨a0, a1, g0, g1⟩ := P13.out.kg hk4 (by omega); obtain ⟨a2, a3, g2, g3⟩ := P23.out.kg hk4 (by omega); obtain ⟨a4, a5, g4, g5⟩ := P33.out.kg hk4 (by omega); clear hd3 hs4 hk4))
  have hT := s6 (b := w.heap.size) (v0 := .int .i64 x1) (v1 := .int .i64 y1) (v2 := .int .i64 x2) (v3 := .int .i64 y2) (v4 := .int .i64 x3) (v5 := .int .i64 y3) a0 a1 a2 a3 a4 a5
  have hBf : Below w.heap.size w ((((((w4.setCell ⟨w.heap.size, 0, none⟩ (.int .i64 x1)).setCell ⟨w.heap.size, 1, none⟩ (.int .i64 y1)).setCell ⟨w.heap.size + 1, 0, none⟩ (.int .i64 x2)).setCell ⟨w.heap.size + 1, 1, none⟩ (.int .i64 y2)).setCell ⟨w.heap.size + 1 + 1, 0, none⟩ (.int .i64 x3)).setCell ⟨w.heap.size + 1 + 1, 1, none⟩ (.int .i64 y3)) := ((((((hB0.trans (HB4.out.mono (by omega))).setCell (p := ⟨w.heap.size, 0, none⟩) (Nat.le_refl _) _).setCell (p := ⟨w.heap.size, 1, none⟩) (Nat.le_refl _) _).setCell (p := ⟨w.heap.size + 1, 0, none⟩) (by simp) _).setCell (p := ⟨w.heap.size + 1, 1, none⟩) (by simp) _).setCell (p := ⟨w.heap.size + 1 + 1, 0, none⟩) (by simp; omega) _).setCell (p := ⟨w.heap.size + 1 + 1, 1, none⟩) (by simp; omega) _
  generalize ((((((w4.setCell ⟨w.heap.size, 0, none⟩ (.int .i64 x1)).setCell ⟨w.heap.size, 1, none⟩ (.int .i64 y1)).setCell ⟨w.heap.size + 1, 0, none⟩ (.int .i64 x2)).setCell ⟨w.heap.size + 1, 1, none⟩ (.int .i64 y2)).setCell ⟨w.heap.size + 1 + 1, 0, none⟩ (.int .i64 x3)).setCell ⟨w.heap.size + 1 + 1, 1, none⟩ (.int .i64 y3)) = wf at hT hBf ⊢
  obtain ⟨t0, t1, t2, t3, t4, t5⟩ := hT
  clear a0 a1 a2 a3 a4 a5 g0 g1 g2 g3 g4 g5
  go_wp2_with fail
  exact bodyPost_ret (v := .tuple #[.agg #[.int .i64 x1, .int .i64 y1], .agg #[.int .i64 x2, .int .i64 y2], .agg #[.int .i64 x3, .int .i64 y3]]) (by simp [results, Tryd.results42, go_sem, t0, t1, t2, t3, t4, t5]) rfl ⟨⟨x1, y1, x2, y2, x3, y3, rfl, D1.out, D2.out, D3.out⟩, hBf⟩
end Go.Proofs.YtnikogholldcmaaDoor
