/-
  'laws.FnExactTableOfTerms' returns true for every input, and each argument reads behind the call as it read before. No conditions.
-/
import Derived.Test.YtmecaganodeblaaRows
import Derived.Test.YtmecaganodeblaaWk4
import Derived.Test.YtmecaganodeblaaWk5
import Derived.Test.YtmecaganodeblaaWls
import Derived.WalkKit
import Derived.ProofKit
import Derived.OpenShut
import Derived.ShutString
import Derived.ChangeOld
import Derived.Below
import Derived.SliceStrings
namespace Go.Proofs.Ytmecaganodeblaa
namespace fnExactTableOfTerms
open Go.ChangeShapes Go.WideShapes Go.ChangeAt Go.RowKit
open Go.ChangeMaps (open_string shut_string)
open Go.RowKit
set_option linter.unusedVariables false

theorem walk_FnExactTableOfTerms (A : Option Addr) (n c : Nat) (ts : List (List UInt8)) (x1 : Int) (w : World) (h0 : Arg w A n c ts) (h1 : (Lit.int .i64 x1).wf = true) :
    Calls Try.prog 12 #[.slice A n c, .int .i64 x1] w fun e w' => e = .returned (.bool true) ∧ Below w.heap.size w w' := by
  have HA := Lib.hid h0
  have hw1 := h1
  clear h0 h1
  go_enter Try.func12, Try.ntmps12
  go_wp2_with fail
  refine (szStringS ts A n c _ HA.out).mono ?_
  rintro e w1 ⟨r, rfl, hr, rfl⟩
  by_cases hneg : r < 0
  · go_wp2_with fail
    go_ret
    exact ⟨rfl, Below.refl _ _⟩
  have hl : ts.length ≤ 1048576 := hr (by omega)
  have hn : n ≤ 1048576 := by rw [← HA.out.1]; exact hl
  have HL := Lib.hid hl
  have HS := Lib.hid HA.out.2.2.2.1
  clear hr hl
  go_wp2_with fail
  refine (toStringS ts A n c _ hn HA.out).mono ?_
  rintro e w2 ⟨⟨v, rfl, hv⟩, b2⟩
  go_wp2_with fail
  refine (tableOfTermsS ts v x1 _ HL.out HS.out hv.row).mono ?_
  rintro e w3 ⟨rfl, b3⟩
  have B3 := b2.trans (b3.mono b2.size)
  clear hv b2 b3
  go_wp2_with fail
  refine (toStringS ts A n c _ hn (HA.out.keep B3)).mono ?_
  rintro e w4 ⟨⟨u, rfl, hu⟩, b4⟩
  have B4 := B3.trans (b4.mono B3.size)
  clear B3 b4
  go_wp2_with fail
  refine (tableOfTermsI ts u x1 _ HL.out HS.out hu.row).mono ?_
  rintro e w5 ⟨rfl, b5⟩
  have hu5 := hu.keep b5
  have B5 := B4.trans (b5.mono B4.size)
  clear hu B4 b5
  go_wp2_with fail
  refine (toStringS ts A n c _ hn (HA.out.keep B5)).mono ?_
  rintro e w6 ⟨⟨u6, rfl, hu6⟩, b6⟩
  have hu56 := hu5.keep b6
  have B6 := B5.trans (b6.mono B5.size)
  clear hu5 B5 b6
  go_wp2_with fail
  refine (eqStringSLb ts _ _ _ HL.out hu56.row hu6.row).mono ?_
  rintro e w7 ⟨rfl, b7⟩
  go_wp2_with fail
  go_ret
  exact ⟨rfl, B6.trans (b7.mono B6.size)⟩

theorem own : ownKnob Try.prog.godebug = none := by kernel_rfl
theorem laidOut : laidOutB Try.prog = true := by kernel_rfl

set_option maxRecDepth 100000 in
theorem lifted (os : Os) (started : os.Started) (H : Type) (enc : TypeId × Value → H) :
    ReturnsInHanded {} Try.checked os 12 .any (Rows.fnExactTableOfTermsSpec.pre6 enc Try.prog Try.f12 Rows.fnExactTableOfTermsRow.domain false) (Rows.fnExactTableOfTermsSpec.post enc Try.prog Try.f12 false true false false) := by
  refine returnsInHanded_of_change (C := Try.checked) own started (by kernel_rfl) Try.func12
    (ChangeSpec.witness6 (enc := enc) (C := Try.checked) false ⟨#[], #[.slice none 0 0, .int .i64 0], []⟩ 8 (by kernel_rfl) (by kernel_rfl) (by kernel_rfl) (by kernel_rfl)) ?_
  intro W base args ds gs before hval0 hW hcnd _
  have hval : ∀ (j : Nat) t v, Try.f12.params[j]? = some t → args[j]? = some v → Value.okWide Try.prog W .any base t v := hval0
  have hW' := hW
  obtain ⟨p, q, hA0, hV, rfl, hfz, hnd⟩ := hW
  have hA : DataW.TrodAll enc Try.prog W 0 (fun _ => true) true Try.f12.params.toList args.toList ds p := hA0
  rw [Try.params12] at hA hval
  obtain ⟨v0, vs0, d0, ds0, p0, q0, hargs, rfl, rfl, h0, r0⟩ := trodAll_cons hA
  obtain ⟨v1, vs1, d1, ds1, p1, q1, rfl, rfl, rfl, h1, r1⟩ := trodAll_cons r0
  obtain ⟨rfl, rfl, rfl⟩ := trodAll_nil r1
  obtain rfl : args = #[v0, v1] := by cases args; simp_all
  obtain ⟨rfl, rfl⟩ := trodVars_none hV
  obtain ⟨a0, len0, cap0, rfl⟩ := okWide_slice Try.underlying37 (hval 0 37 v0 rfl rfl)
  have k0 := h0
  have lt0 : ∀ x ∈ p0, x.block < W.heap.size := by obtain ⟨m, hm⟩ := k0; exact DataW.trod_lt m _ _ _ hm
  obtain ⟨z0, w0⟩ : ∃ ts, Arg W a0 len0 cap0 ts := by
    obtain ⟨fuel, hf⟩ := h0
    rcases open_strings Try.underlying37 Try.underlying9 (by kernel_rfl) hf with ⟨hcs, _⟩ | ⟨x, l, c, ss, hcs, _, hl, hm, hz, _, hcell, hwz⟩
    · simp [Value.cells] at hcs
      obtain ⟨rfl, rfl, rfl⟩ := hcs
      exact ⟨[], rfl, Nat.le_refl _, Nat.zero_le _, (fun t ht => by cases ht), fun h => absurd rfl h⟩
    · simp [Value.cells] at hcs
      obtain ⟨rfl, rfl, rfl⟩ := hcs
      exact ⟨_, arg_of W _ _ _ ss hl hm (by simpa using hz) hcell hwz⟩
  obtain ⟨a1, rfl, rfl, rfl, w1⟩ := open_int Try.underlying3 (hval 1 3 v1 rfl rfl) h1
  clear hA0 hval0
  refine (walk_FnExactTableOfTerms a0 len0 cap0 z0 a1 W w0 w1).mono fun e W' ⟨he, bel⟩ => ?_
  subst he
  exact ⟨_, rfl, _, _, _, [], _, [], hW', trodAll_mk1 (shut_bool Try.underlying4 _), (trodAll_cons_mk (Below.trod laidOut (by kernel_rfl) (of_decide_eq_true (by kernel_rfl)) k0 bel lt0) (trodAll_cons_mk (shut_int Try.underlying3 w1) trodAll_mk0)), rfl, bel.frame _, fun h => by cases h⟩

theorem over : Rows.fnExactTableOfTermsRow.holds Try.pinned (OpenSpec.ofChange Rows.fnExactTableOfTermsSpec) :=
  OpenClaim.holds_of_wide 12 Try.f12 rfl rfl rfl rfl rfl rfl rfl ⟨rfl, rfl, rfl, rfl, rfl⟩ rfl rfl rfl rfl rfl (by kernel_rfl) Try.func12 (by kernel_rfl)
    (of_decide_eq_true (by kernel_rfl)) (by unfold Func.isWrapper; first | (rw [if_pos (by decide +kernel)]; kernel_rfl) | (rw [if_neg (by decide +kernel)]; exact ⟨rfl, rfl⟩))
    (fun os started H enc _ => lifted os started H enc)
end fnExactTableOfTerms

theorem fnExactTableOfTerms_holds : Rows.FnExactTableOfTermsSaid := fnExactTableOfTerms.over
#print axioms fnExactTableOfTerms_holds
end Go.Proofs.Ytmecaganodeblaa
