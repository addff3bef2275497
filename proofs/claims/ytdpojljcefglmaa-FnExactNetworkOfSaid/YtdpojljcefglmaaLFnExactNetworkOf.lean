/-
  'laws.FnExactNetworkOf' returns true for every input, and each argument reads behind the call as it read before. No conditions.
-/
import Derived.Test.YtdpojljcefglmaaRows
import Derived.Test.YtdpojljcefglmaaWj3
import Derived.Test.YtdpojljcefglmaaWls
import Derived.WalkKit
import Derived.ProofKit
import Derived.OpenShut
import Derived.ShutString
import Derived.ChangeOld
import Derived.Below
import Derived.SliceStrings
namespace Go.Proofs.Ytdpojljcefglmaa
set_option linter.unusedVariables false
set_option linter.unusedSimpArgs false
namespace fnExactNetworkOf
open Go.ChangeShapes Go.WideShapes Go.ChangeAt Go.RowKit
open Go.ChangeMaps (open_string shut_string)
open Go.RowKit
set_option linter.unusedVariables false

theorem walk_FnExactNetworkOf (A : Option Addr) (n c : Nat) (ts : List (List UInt8)) (w : World) (h0 : Arg w A n c ts) :
    Calls Try.prog 7 #[.slice A n c] w fun e w' => e = .returned (.bool true) ∧ Below w.heap.size w w' := by
  have HA := Lib.hid h0
  clear h0
  go_enter Try.func7, Try.ntmps7
  go_wp2_with fail
  refine (szStringS ts A n c _ HA.out).mono ?_
  rintro e w1 ⟨r, rfl, hr, rfl⟩
  by_cases hneg : r < 0
  · go_wp2_with fail
    go_ret
    exact ⟨rfl, Below.refl _ _⟩
  have hl : ts.length ≤ 1048576 := hr (by omega)
  have hn : n ≤ 1048576 := by rw [← HA.out.1]; exact hl
  have HL := Lib.hid hl
  have HS := Lib.hid HA.out.2.2.2.1
  clear hr hl
  go_wp2_with fail
  refine (toStringS ts A n c _ hn HA.out).mono ?_
  rintro e w2 ⟨⟨v, rfl, hv⟩, b2⟩
  go_wp2_with fail
  refine (networkOfS ts v _ HL.out HS.out hv.row).mono ?_
  rintro e w3 ⟨rfl, b3⟩
  have B3 := b2.trans (b3.mono b2.size)
  clear hv b2 b3
  go_wp2_with fail
  refine (toStringS ts A n c _ hn (HA.out.keep B3)).mono ?_
  rintro e w4 ⟨⟨u, rfl, hu⟩, b4⟩
  have B4 := B3.trans (b4.mono B3.size)
  clear B3 b4
  go_wp2_with fail
  refine (networkOfI ts u _ HL.out HS.out hu.row).mono ?_
  rintro e w5 ⟨rfl, b5⟩
  have hu5 := hu.keep b5
  have B5 := B4.trans (b5.mono B4.size)
  clear hu B4 b5
  go_wp2_with fail
  refine (toStringS ts A n c _ hn (HA.out.keep B5)).mono ?_
  rintro e w6 ⟨⟨u6, rfl, hu6⟩, b6⟩
  have hu56 := hu5.keep b6
  have B6 := B5.trans (b6.mono B5.size)
  clear hu5 B5 b6
  go_wp2_with fail
  refine (eqStringSLb ts _ _ _ HL.out hu56.row hu6.row).mono ?_
  rintro e w7 ⟨rfl, b7⟩
  go_wp2_with fail
  go_ret
  exact ⟨rfl, B6.trans (b7.mono B6.size)⟩

theorem own : ownKnob Try.prog.godebug = none := by kernel_rfl
theorem laidOut : laidOutB Try.prog = true := by kernel_rfl

set_option maxRecDepth 100000 in
theorem lifted (os : Os) (started : os.Started) (H : Type) (enc : TypeId × Value → H) :
    ReturnsInHanded {} Try.checked os 7 .any (Rows.fnExactNetworkOfSpec.pre6 enc Try.prog Try.f7 Rows.fnExactNetworkOfRow.domain false) (Rows.fnExactNetworkOfSpec.post enc Try.prog Try.f7 false true false false) := by
  refine returnsInHanded_of_change (C := Try.checked) own started (by kernel_rfl) Try.func7
    (ChangeSpec.witness6 (enc := enc) (C := Try.checked) false ⟨#[], #[.slice none 0 0], []⟩ 8 (by kernel_rfl) (by kernel_rfl) (by kernel_rfl) (by kernel_rfl)) ?_
  intro W base args ds gs before hval0 hW hcnd _
  have hval : ∀ (j : Nat) t v, Try.f7.params[j]? = some t → args[j]? = some v → Value.okWide Try.prog W .any base t v := hval0
  have hW' := hW
  obtain ⟨p, q, hA0, hV, rfl, hfz, hnd⟩ := hW
  have hA : DataW.TrodAll enc Try.prog W 0 (fun _ => true) true Try.f7.params.toList args.toList ds p := hA0
  rw [Try.params7] at hA hval
  obtain ⟨v0, vs0, d0, ds0, p0, q0, hargs, rfl, rfl, h0, r0⟩ := trodAll_cons hA
  obtain ⟨rfl, rfl, rfl⟩ := trodAll_nil r0
  obtain rfl : args = #[v0] := by cases args; simp_all
  obtain ⟨rfl, rfl⟩ := trodVars_none hV
  obtain ⟨a0, len0, cap0, rfl⟩ := okWide_slice Try.underlying22 (hval 0 22 v0 rfl rfl)
  have k0 := h0
  have lt0 : ∀ x ∈ p0, x.block < W.heap.size := by obtain ⟨m, hm⟩ := k0; exact DataW.trod_lt m _ _ _ hm
  obtain ⟨z0, w0⟩ : ∃ ts, Arg W a0 len0 cap0 ts := by
    obtain ⟨fuel, hf⟩ := h0
    rcases open_strings Try.underlying22 Try.underlying9 (by kernel_rfl) hf with ⟨hcs, _⟩ | ⟨x, l, c, ss, hcs, _, hl, hm, hz, _, hcell, hwz⟩
    · simp [Value.cells] at hcs
      obtain ⟨rfl, rfl, rfl⟩ := hcs
      exact ⟨[], rfl, Nat.le_refl _, Nat.zero_le _, (fun t ht => by cases ht), fun h => absurd rfl h⟩
    · simp [Value.cells] at hcs
      obtain ⟨rfl, rfl, rfl⟩ := hcs
      exact ⟨_, arg_of W _ _ _ ss hl hm (by simpa using hz) hcell hwz⟩
  clear hA0 hval0
  refine (walk_FnExactNetworkOf a0 len0 cap0 z0 W w0).mono fun e W' ⟨he, bel⟩ => ?_
  subst he
  exact ⟨_, rfl, _, _, _, [], _, [], hW', trodAll_mk1 (shut_bool Try.underlying4 _), (trodAll_cons_mk (Below.trod laidOut (by kernel_rfl) (of_decide_eq_true (by kernel_rfl)) k0 bel lt0) trodAll_mk0), rfl, bel.frame _, fun h => by cases h⟩

theorem over : Rows.fnExactNetworkOfRow.holds Try.pinned (OpenSpec.ofChange Rows.fnExactNetworkOfSpec) :=
  OpenClaim.holds_of_wide 7 Try.f7 rfl rfl rfl rfl rfl rfl rfl ⟨rfl, rfl, rfl, rfl, rfl⟩ rfl rfl rfl rfl rfl (by kernel_rfl) Try.func7 (by kernel_rfl)
    (of_decide_eq_true (by kernel_rfl)) (by unfold Func.isWrapper; first | (rw [if_pos (by decide +kernel)]; kernel_rfl) | (rw [if_neg (by decide +kernel)]; exact ⟨rfl, rfl⟩))
    (fun os started H enc _ => lifted os started H enc)
end fnExactNetworkOf

theorem fnExactNetworkOf_holds : Rows.FnExactNetworkOfSaid := fnExactNetworkOf.over
#print axioms fnExactNetworkOf_holds
end Go.Proofs.Ytdpojljcefglmaa
