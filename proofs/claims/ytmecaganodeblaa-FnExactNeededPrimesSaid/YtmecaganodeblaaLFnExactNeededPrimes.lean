/-
  'laws.FnExactNeededPrimes' returns true for every input, and each argument reads behind the call as it read before. No conditions.
-/
import Derived.Test.YtmecaganodeblaaRows
import Derived.Test.YtmecaganodeblaaWms
import Derived.Test.YtmecaganodeblaaWv6
import Derived.WalkKit
import Derived.ProofKit
import Derived.OpenShut
import Derived.ShutString
import Derived.ChangeOld
import Derived.Below
namespace Go.Proofs.Ytmecaganodeblaa
namespace fnExactNeededPrimes
open Go.ChangeShapes Go.WideShapes Go.ChangeAt Go.RowKit
open Go.ChangeMaps (open_string shut_string)
open Go.RowKit
set_option linter.unusedVariables false

theorem walk_FnExactNeededPrimes (x0 : ByteArray) (w : World) (h0 : x0.size ≤ maxLen) :
    Calls Try.prog 14 #[.string x0] w fun e w' => e = .returned (.bool true) ∧ Below w.heap.size w w' := by
  by_cases hb0 : 1048576 < x0.size
  · go_enter Try.func14, Try.ntmps14
    go_wp2_with fail
    go_ret
    exact ⟨rfl, Below.refl _ _⟩
  have hl := Lib.hid (neeL_len x0.data.toList)
  obtain ⟨n, hn⟩ : ∃ n, n = (neeL x0.data.toList).length := ⟨_, rfl⟩
  have hn5 : n ≤ 65536 := by rw [hn]; exact hl.out
  have HN := Lib.hid hn
  clear hn
  go_enter Try.func14, Try.ntmps14
  go_wp2_with fail
  refine (neededPrimesS x0 _ h0).mono ?_
  rintro e w1 ⟨⟨v0, rfl, r0⟩, b1⟩
  go_wp2_with fail
  refine (neededPrimesI x0 _ h0).mono ?_
  rintro e w2 ⟨⟨g0, rfl, r1⟩, b2⟩
  have r0' := r0.row.keep b2
  go_wp2_with fail
  refine (eqStringSL (neeL x0.data.toList) _ _ _ hl.out r1.row r0').mono ?_
  rintro e w3 ⟨rfl, b3⟩
  have r1' := r1.keep b3
  have B3 := b2.trans (b3.mono b2.size)
  have hsz3 : w1.heap.size ≤ w3.heap.size := B3.size
  clear r1 r0'
  go_wp2_with fail
  refine (markStringSL (neeL x0.data.toList) _ w1.heap.size _ _ hl.out hsz3 r1').mono ?_
  rw [← HN.out]
  rintro e w4 ⟨rfl, r4, b4⟩
  have B4 := B3.trans b4
  clear r1' B3 b4 b3 b2
  go_wp2_with fail
  refine (heldStringSB n _ _ hn5 r4.row).mono ?_
  rintro e w5 ⟨rfl, b5⟩
  have r5 := r4.keep b5
  have B5 := B4.trans (b5.mono B4.size)
  clear r4 B4 b5
  go_wp2_with fail
  refine (neededPrimesI x0 _ h0).mono ?_
  rintro e w6 ⟨⟨h9, rfl, r9⟩, b6⟩
  have r6 := r5.keep b6
  have B6 := B5.trans (b6.mono B5.size)
  have r0'' := r0.row.keep B6
  clear r5 B5 b6
  go_wp2_with fail
  refine (eqStringSL (neeL x0.data.toList) _ _ _ hl.out r9.row r0'').mono ?_
  rintro e w7 ⟨rfl, b7⟩
  have r7 := r6.keep b7
  have B7 := B6.trans (b7.mono B6.size)
  clear r6 B6 b7 r9 r0''
  go_wp2_with fail
  refine (heldStringSB n _ _ hn5 r7.row).mono ?_
  rintro e w8 ⟨rfl, b8⟩
  have B8 := B7.trans (b8.mono B7.size)
  go_wp2_with fail
  go_ret
  exact ⟨rfl, b1.trans (B8.mono b1.size)⟩

theorem own : ownKnob Try.prog.godebug = none := by kernel_rfl

set_option maxRecDepth 100000 in
theorem lifted (os : Os) (started : os.Started) (H : Type) (enc : TypeId × Value → H) :
    ReturnsInHanded {} Try.checked os 14 .any (Rows.fnExactNeededPrimesSpec.pre6 enc Try.prog Try.f14 Rows.fnExactNeededPrimesRow.domain false) (Rows.fnExactNeededPrimesSpec.post enc Try.prog Try.f14 false true false false) := by
  refine returnsInHanded_of_change (C := Try.checked) own started (by kernel_rfl) Try.func14
    (ChangeSpec.witness6 (enc := enc) (C := Try.checked) false ⟨#[], #[.string ByteArray.empty], []⟩ 8 (by kernel_rfl) (by kernel_rfl) (by kernel_rfl) (by kernel_rfl)) ?_
  intro W base args ds gs before hval0 hW hcnd _
  have hval : ∀ (j : Nat) t v, Try.f14.params[j]? = some t → args[j]? = some v → Value.okWide Try.prog W .any base t v := hval0
  have hW' := hW
  obtain ⟨p, q, hA0, hV, rfl, hfz, hnd⟩ := hW
  have hA : DataW.TrodAll enc Try.prog W 0 (fun _ => true) true Try.f14.params.toList args.toList ds p := hA0
  rw [Try.params14] at hA hval
  obtain ⟨v0, vs0, d0, ds0, p0, q0, hargs, rfl, rfl, h0, r0⟩ := trodAll_cons hA
  obtain ⟨rfl, rfl, rfl⟩ := trodAll_nil r0
  obtain rfl : args = #[v0] := by cases args; simp_all
  obtain ⟨rfl, rfl⟩ := trodVars_none hV
  obtain ⟨a0, rfl, rfl, rfl, w0⟩ := open_string Try.underlying9 (hval 0 9 v0 rfl rfl) h0
  clear hA0 hval0
  refine (walk_FnExactNeededPrimes a0 W w0).mono fun e W' ⟨he, bel⟩ => ?_
  subst he
  exact ⟨_, rfl, _, _, _, [], _, [], hW', trodAll_mk1 (shut_bool Try.underlying4 _), (trodAll_cons_mk (shut_string Try.underlying9 w0) trodAll_mk0), rfl, bel.frame _, fun h => by cases h⟩

theorem over : Rows.fnExactNeededPrimesRow.holds Try.pinned (OpenSpec.ofChange Rows.fnExactNeededPrimesSpec) :=
  OpenClaim.holds_of_wide 14 Try.f14 rfl rfl rfl rfl rfl rfl rfl ⟨rfl, rfl, rfl, rfl, rfl⟩ rfl rfl rfl rfl rfl (by kernel_rfl) Try.func14 (by kernel_rfl)
    (of_decide_eq_true (by kernel_rfl)) (by unfold Func.isWrapper; first | (rw [if_pos (by decide +kernel)]; kernel_rfl) | (rw [if_neg (by decide +kernel)]; exact ⟨rfl, rfl⟩))
    (fun os started H enc _ => lifted os started H enc)
end fnExactNeededPrimes

theorem fnExactNeededPrimes_holds : Rows.FnExactNeededPrimesSaid := fnExactNeededPrimes.over
#print axioms fnExactNeededPrimes_holds
end Go.Proofs.Ytmecaganodeblaa
