/-
  'laws.FnExactShowFormula' returns true for every input, and each argument reads behind the call as it read before. No conditions.
-/
import Derived.Test.YtdpojljcefglmaaRows
import Derived.Test.YtdpojljcefglmaaWg9
import Derived.WalkKit
import Derived.ProofKit
import Derived.OpenShut
import Derived.ShutString
import Derived.ChangeOld
import Derived.Below
import Derived.SliceStrings
namespace Go.Proofs.Ytdpojljcefglmaa
namespace fnExactShowFormula
open Go.ChangeShapes Go.WideShapes Go.ChangeAt Go.RowKit
open Go.ChangeMaps (open_string shut_string)
open Go.RowKit
set_option linter.unusedVariables false

theorem walk_FnExactShowFormula (x0 : ByteArray) (x1 : Int) (w : World) (h0 : x0.size ≤ maxLen) (h1 : (Lit.int .i64 x1).wf = true) :
    Calls Try.prog 6 #[.string x0, .int .i64 x1] w fun e w' => e = .returned (.bool true) ∧ Below w.heap.size w w' := by
  have hw1 := h1
  clear h1
  by_cases hb0 : 1048576 < x0.size
  · go_enter Try.func6, Try.ntmps6
    go_wp2_with fail
    go_ret
    exact ⟨rfl, Below.refl _ _⟩
  go_enter Try.func6, Try.ntmps6
  go_wp2_with fail
  refine (showFormulaS x0 x1 _ h0).mono ?_
  first
    | rintro e w1 ⟨rfl, rfl⟩
    | rintro e w1 ⟨rfl, hB1⟩
  go_wp2_with fail
  refine (showFormulaI x0 x1 _ h0).mono ?_
  first
    | rintro e w2 ⟨rfl, rfl⟩
    | rintro e w2 ⟨rfl, hB2⟩
  go_wp2_with fail
  go_ret
  refine ⟨rfl, ?_⟩
  first
    | exact Below.refl _ _
    | exact hB1.trans (hB2.mono hB1.size)
    | exact hB1
    | exact hB2

theorem own : ownKnob Try.prog.godebug = none := by kernel_rfl

set_option maxRecDepth 100000 in
theorem lifted (os : Os) (started : os.Started) (H : Type) (enc : TypeId × Value → H) :
    ReturnsInHanded {} Try.checked os 6 .any (Rows.fnExactShowFormulaSpec.pre6 enc Try.prog Try.f6 Rows.fnExactShowFormulaRow.domain false) (Rows.fnExactShowFormulaSpec.post enc Try.prog Try.f6 false true false false) := by
  refine returnsInHanded_of_change (C := Try.checked) own started (by kernel_rfl) Try.func6
    (ChangeSpec.witness6 (enc := enc) (C := Try.checked) false ⟨#[], #[.string ByteArray.empty, .int .i64 0], []⟩ 8 (by kernel_rfl) (by kernel_rfl) (by kernel_rfl) (by kernel_rfl)) ?_
  intro W base args ds gs before hval0 hW hcnd _
  have hval : ∀ (j : Nat) t v, Try.f6.params[j]? = some t → args[j]? = some v → Value.okWide Try.prog W .any base t v := hval0
  have hW' := hW
  obtain ⟨p, q, hA0, hV, rfl, hfz, hnd⟩ := hW
  have hA : DataW.TrodAll enc Try.prog W 0 (fun _ => true) true Try.f6.params.toList args.toList ds p := hA0
  rw [Try.params6] at hA hval
  obtain ⟨v0, vs0, d0, ds0, p0, q0, hargs, rfl, rfl, h0, r0⟩ := trodAll_cons hA
  obtain ⟨v1, vs1, d1, ds1, p1, q1, rfl, rfl, rfl, h1, r1⟩ := trodAll_cons r0
  obtain ⟨rfl, rfl, rfl⟩ := trodAll_nil r1
  obtain rfl : args = #[v0, v1] := by cases args; simp_all
  obtain ⟨rfl, rfl⟩ := trodVars_none hV
  obtain ⟨a0, rfl, rfl, rfl, w0⟩ := open_string Try.underlying9 (hval 0 9 v0 rfl rfl) h0
  obtain ⟨a1, rfl, rfl, rfl, w1⟩ := open_int Try.underlying3 (hval 1 3 v1 rfl rfl) h1
  clear hA0 hval0
  refine (walk_FnExactShowFormula a0 a1 W w0 w1).mono fun e W' ⟨he, bel⟩ => ?_
  subst he
  exact ⟨_, rfl, _, _, _, [], _, [], hW', trodAll_mk1 (shut_bool Try.underlying4 _), (trodAll_cons_mk (shut_string Try.underlying9 w0) (trodAll_cons_mk (shut_int Try.underlying3 w1) trodAll_mk0)), rfl, bel.frame _, fun h => by cases h⟩

theorem over : Rows.fnExactShowFormulaRow.holds Try.pinned (OpenSpec.ofChange Rows.fnExactShowFormulaSpec) :=
  OpenClaim.holds_of_wide 6 Try.f6 rfl rfl rfl rfl rfl rfl rfl ⟨rfl, rfl, rfl, rfl, rfl⟩ rfl rfl rfl rfl rfl (by kernel_rfl) Try.func6 (by kernel_rfl)
    (of_decide_eq_true (by kernel_rfl)) (by unfold Func.isWrapper; first | (rw [if_pos (by decide +kernel)]; kernel_rfl) | (rw [if_neg (by decide +kernel)]; exact ⟨rfl, rfl⟩))
    (fun os started H enc _ => lifted os started H enc)
end fnExactShowFormula

theorem fnExactShowFormula_holds : Rows.FnExactShowFormulaSaid := fnExactShowFormula.over
#print axioms fnExactShowFormula_holds
end Go.Proofs.Ytdpojljcefglmaa
