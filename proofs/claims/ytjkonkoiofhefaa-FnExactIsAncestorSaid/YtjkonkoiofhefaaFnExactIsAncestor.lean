/-
  The statement of the law FnExactIsAncestor: for every input the Go law returns true, and the arguments read afterwards as before.
  No condition beyond the statement's own.
-/
import Derived.Test.YtjkonkoiofhefaaRows
import Derived.WalkKit
import Derived.ProofKit
import Derived.OpenShut
import Derived.ShutString
import Derived.ChangeOld
import Derived.Below
import Derived.SizedLaws
import Derived.Lib.SmallJoins
import Derived.Deep.Slices
import Derived.Test.YtjkonkoiofhefaaMem
import Derived.Test.YtjkonkoiofhefaaAnc
namespace Go.Proofs.Ytjkonkoiofhefaa.fnExactIsAncestor
open Go.ChangeShapes Go.WideShapes Go.ChangeAt Go.RowKit Go.Joins
open Go.ChangeMaps (open_string shut_string)
set_option linter.unusedVariables false

theorem own : ownKnob Try.prog.godebug = none := by kernel_rfl
theorem laidOut : laidOutB Try.prog = true := by kernel_rfl

set_option maxRecDepth 100000 in
theorem lifted (os : Os) (started : os.Started) (H : Type) (enc : TypeId × Value → H) :
    ReturnsInHanded {} Try.checked os 5 .any (Rows.fnExactIsAncestorSpec.pre6 enc Try.prog Try.f5 Rows.fnExactIsAncestorRow.domain false) (Rows.fnExactIsAncestorSpec.post enc Try.prog Try.f5 false true false false) := by
  refine returnsInHanded_of_change (C := Try.checked) own started (by kernel_rfl) Try.func5
    (ChangeSpec.witness6 (enc := enc) (C := Try.checked) false ⟨#[], #[.agg #[.int .i64 0, .int .i64 0], .agg #[.int .i64 0, .int .i64 0]], []⟩ 8 (by kernel_rfl) (by kernel_rfl) (by kernel_rfl) (by kernel_rfl)) ?_
  intro W base args ds gs before hval0 hW hcnd _
  have hval : ∀ (j : Nat) t v, Try.f5.params[j]? = some t → args[j]? = some v → Value.okWide Try.prog W .any base t v := hval0
  have hW' := hW
  obtain ⟨p, q, hA0, hV, rfl, hfz, hnd⟩ := hW
  have hA : DataW.TrodAll enc Try.prog W 0 (fun _ => true) true Try.f5.params.toList args.toList ds p := hA0
  rw [Try.params5] at hA hval
  obtain ⟨v0, vs0, d0, ds0, p0, q0, hargs, rfl, rfl, h0, r0⟩ := trodAll_cons hA
  obtain ⟨v1, vs1, d1, ds1, p1, q1, rfl, rfl, rfl, h1, r1⟩ := trodAll_cons r0
  obtain ⟨rfl, rfl, rfl⟩ := trodAll_nil r1
  obtain rfl : args = #[v0, v1] := by cases args; simp_all
  obtain ⟨rfl, rfl⟩ := trodVars_none hV
  obtain ⟨c0a, c0b, y0a, y0b, m0, rfl, rfl, rfl, g0a, g0b⟩ := open_agg2 Try.underlying45 (by kernel_rfl) (by kernel_rfl) (hval 0 45 v0 rfl rfl) h0
  obtain ⟨z0a, e0a, rfl, w0a⟩ := DataW.trod_int Try.underlying2 g0a
  simp at e0a
  subst e0a
  obtain ⟨z0b, e0b, rfl, w0b⟩ := DataW.trod_int Try.underlying2 g0b
  simp at e0b
  subst e0b
  obtain ⟨c1a, c1b, y1a, y1b, m1, rfl, rfl, rfl, g1a, g1b⟩ := open_agg2 Try.underlying45 (by kernel_rfl) (by kernel_rfl) (hval 1 45 v1 rfl rfl) h1
  obtain ⟨z1a, e1a, rfl, w1a⟩ := DataW.trod_int Try.underlying2 g1a
  simp at e1a
  subst e1a
  obtain ⟨z1b, e1b, rfl, w1b⟩ := DataW.trod_int Try.underlying2 g1b
  simp at e1b
  subst e1b
  clear hA0 hval0
  refine (fnExactIsAncestor_walk z0a z0b (i64_bd w0a).1 (i64_bd w0a).2 (i64_bd w0b).1 (i64_bd w0b).2 z1a z1b (i64_bd w1a).1 (i64_bd w1a).2 (i64_bd w1b).1 (i64_bd w1b).2 W).mono fun e W' ⟨he, bel⟩ => ?_
  subst he
  exact ⟨_, rfl, _, _, _, [], _, [], hW', trodAll_mk1 (shut_bool Try.underlying4 _), (trodAll_cons_mk (shut_agg2 (y0 := (.lit (.int .i64 z0a), [])) (y1 := (.lit (.int .i64 z0b), [])) Try.underlying45 (by kernel_rfl) (by kernel_rfl) ⟨1, trod_int_mk 0 Try.underlying2 w0a⟩ ⟨1, trod_int_mk 0 Try.underlying2 w0b⟩) (trodAll_cons_mk (shut_agg2 (y0 := (.lit (.int .i64 z1a), [])) (y1 := (.lit (.int .i64 z1b), [])) Try.underlying45 (by kernel_rfl) (by kernel_rfl) ⟨1, trod_int_mk 0 Try.underlying2 w1a⟩ ⟨1, trod_int_mk 0 Try.underlying2 w1b⟩) trodAll_mk0)), rfl, bel.frame _, fun h => by cases h⟩

theorem over : Rows.fnExactIsAncestorRow.holds Try.pinned (OpenSpec.ofChange Rows.fnExactIsAncestorSpec) :=
  OpenClaim.holds_of_wide 5 Try.f5 rfl rfl rfl rfl rfl rfl rfl ⟨rfl, rfl, rfl, rfl, rfl⟩ rfl rfl rfl rfl rfl (by kernel_rfl) Try.func5 (by kernel_rfl)
    (of_decide_eq_true (by kernel_rfl)) (by unfold Func.isWrapper; first | (rw [if_pos (by decide +kernel)]; kernel_rfl) | (rw [if_neg (by decide +kernel)]; exact ⟨rfl, rfl⟩))
    (fun os started H enc _ => lifted os started H enc)

theorem proved : Rows.FnExactIsAncestorSaid := over
#print axioms proved
end Go.Proofs.Ytjkonkoiofhefaa.fnExactIsAncestor
