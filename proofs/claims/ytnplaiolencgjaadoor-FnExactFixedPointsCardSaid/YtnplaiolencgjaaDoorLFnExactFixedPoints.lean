/-
  'laws.FnExactFixedPoints' returns true for every input, and each argument reads behind the call as it read before: the tied card. Conditions: those of the given row (two tables of Go's library read as the program's text lays them).
-/
import Derived.Test.YtnplaiolencgjaaDoorCards
import Derived.Test.YtnplaiolencgjaaDoorTie
import Derived.Test.YtnplaiolencgjaaDoorWzc
import Derived.Test.YtnplaiolencgjaaDoorWm
import Derived.WalkKit
import Derived.ProofKit
import Derived.OpenShut
import Derived.ShutString
import Derived.ChangeOld
import Derived.Below
import Derived.LaidMore
import Derived.Lay
import Derived.SevenTiedAt
import Derived.Stop.Joined
namespace Go.Proofs.YtnplaiolencgjaaDoor
set_option linter.unusedVariables false
set_option linter.unusedSimpArgs false
namespace fnExactFixedPoints
open Go.ChangeShapes Go.WideShapes Go.ChangeAt Go.RowKit
open Go.ChangeMaps (open_string shut_string)
set_option linter.unusedVariables false

theorem walk_FnExactFixedPoints (x0 : ByteArray) (w : World) (h0 : x0.size ≤ maxLen) (hm : Ml w) :
    Calls Tryd.prog 10 #[.string x0] w fun e w' => e = .returned (.bool true) ∧ Below w.heap.size w w' := by
  have HM := Lib.hid hm
  clear hm
  by_cases hb0 : 1048576 < x0.size
  · go_enter Tryd.func10, Tryd.ntmps10
    go_wp2_with fail
    go_ret
    exact ⟨rfl, Below.refl _ _⟩
  have hs0 : x0.size ≤ 1048576 := by omega
  have hl := Lib.hid (fixL_len (netL x0))
  obtain ⟨n, hn⟩ : ∃ n, n = (fixL (netL x0)).length := ⟨_, rfl⟩
  have hn5 : n ≤ 65536 := by rw [hn]; exact hl.out
  have HN := Lib.hid hn
  clear hn
  go_enter Tryd.func10, Tryd.ntmps10
  go_wp2_with fail
  refine (fixedPointsS x0 _ hs0).mono ?_
  rintro e w1 ⟨⟨v0, rfl, r0⟩, b1⟩
  have HM1 := Lib.hid (HM.out.keep b1)
  go_wp2_with fail
  refine (fixedPointsI x0 _ hs0 HM1.out).mono ?_
  rintro e w2 ⟨⟨g0, rfl, r1⟩, b2⟩
  have r0' := r0.row.keep b2
  go_wp2_with fail
  refine (eqIntSL (fixL (netL x0)) _ _ _ hl.out r1.row r0').mono ?_
  rintro e w3 ⟨rfl, b3⟩
  have r1' := r1.keep b3
  have B3 := b2.trans (b3.mono b2.size)
  have hsz3 : w1.heap.size ≤ w3.heap.size := B3.size
  clear r1 r0'
  go_wp2_with fail
  refine (markIntSL (fixL (netL x0)) _ w1.heap.size _ _ hl.out hsz3 r1').mono ?_
  rw [← HN.out]
  rintro e w4 ⟨rfl, r4, b4⟩
  have B4 := B3.trans b4
  clear r1' B3 b4 b3 b2
  go_wp2_with fail
  refine (heldIntSB n _ _ hn5 r4.row).mono ?_
  rintro e w5 ⟨rfl, b5⟩
  have r5 := r4.keep b5
  have B5 := B4.trans (b5.mono B4.size)
  clear r4 B4 b5
  go_wp2_with fail
  refine (fixedPointsI x0 _ hs0 (HM1.out.keep B5)).mono ?_
  rintro e w6 ⟨⟨h9, rfl, r9⟩, b6⟩
  have r6 := r5.keep b6
  have B6 := B5.trans (b6.mono B5.size)
  have r0'' := r0.row.keep B6
  clear r5 B5 b6
  go_wp2_with fail
  refine (eqIntSL (fixL (netL x0)) _ _ _ hl.out r9.row r0'').mono ?_
  rintro e w7 ⟨rfl, b7⟩
  have r7 := r6.keep b7
  have B7 := B6.trans (b7.mono B6.size)
  clear r6 B6 b7 r9 r0''
  go_wp2_with fail
  refine (heldIntSB n _ _ hn5 r7.row).mono ?_
  rintro e w8 ⟨rfl, b8⟩
  have B8 := B7.trans (b8.mono B7.size)
  go_wp2_with fail
  go_ret
  exact ⟨rfl, b1.trans (B8.mono b1.size)⟩

theorem own : ownKnob Tryd.prog.godebug = none := by kernel_rfl

set_option maxRecDepth 100000 in
theorem lifted (os : Os) (started : os.Started) (H : Type) (enc : TypeId × Value → H) :
    ReturnsInHanded {} Tryd.checked os 10 .any (fun w args => (Rows.fnExactFixedPointsSpec.pre enc Tryd.prog Tryd.f10 Rows.fnExactFixedPointsRow.domain false w args ∧ laidMetH Tryd.prog Rows.fnExactFixedPointsRow.laid w) ∧ sizedMet enc Tryd.prog Tryd.f10 (OpenSpec.ofChange Rows.fnExactFixedPointsSpec) false w args)
      (Rows.fnExactFixedPointsSpec.post enc Tryd.prog Tryd.f10 false true false false) := by
  refine returnsInHanded_of_calls (C := Tryd.checked) own started (by kernel_rfl)
    (ChangeSpec.witness_shaped (enc := enc) (C := Tryd.checked) (os := os) (X := fun w _ => laidMetH Tryd.prog Rows.fnExactFixedPointsRow.laid w) false (World.laidAll Tryd.prog os Rows.fnExactFixedPointsRow.laid) #[.string ByteArray.empty] 8 (World.laidAll_os _ _ _)
      (World.shaped_of_ZipB (by kernel_rfl) (by kernel_rfl)) (by kernel_rfl) (by kernel_rfl) (by kernel_rfl)
      (by rw [MakeChecks.laidMetH_plain _ _ _ (by kernel_rfl)]; exact laidMet_laidAll _ (by kernel_rfl) (by kernel_rfl))) ?_
  intro w0 tape i _ hsh _ hok hpre _
  obtain ⟨_, _, _, fn', hfn', _, _, _, _, hval1⟩ := hok
  have hval0 : ∀ (j : Nat) t v, Tryd.f10.params[j]? = some t → i.args[j]? = some v → Value.okWide Tryd.prog (w0.forCall tape i) .any w0.heap.size t v := by
    obtain rfl : Tryd.f10 = fn' := Option.some.inj (Tryd.func10.symm.trans hfn')
    exact hval1
  obtain ⟨⟨⟨ds, gs, before, hw, _⟩, _⟩, _⟩ := hpre
  have hW := DataW.Whole.of_heap (w' := w0.forCall tape i) (by rfl) hw
  have hMl : Ml (w0.forCall tape i) := Tryd.laysM146.s1_3 _ hsh
  clear hw hsh hval1 hfn'
  generalize w0.forCall tape i = W at *
  generalize i.args = args at *
  have hW' := hW
  obtain ⟨p, q, hA0, hV, rfl, _, _⟩ := hW
  have hA : DataW.TrodAll enc Tryd.prog W 0 (fun _ => true) true Tryd.f10.params.toList args.toList ds p := hA0
  rw [Tryd.params10] at hA hval0
  obtain ⟨v0, vs0, d0, ds0, p0, q0, hargs, rfl, rfl, h0, r0⟩ := trodAll_cons hA
  obtain ⟨rfl, rfl, rfl⟩ := trodAll_nil r0
  obtain rfl : args = #[v0] := by cases args; simp_all
  obtain ⟨rfl, rfl⟩ := trodVars_none hV
  obtain ⟨a0, rfl, rfl, rfl, w0⟩ := open_string Tryd.underlying9 (hval0 0 9 v0 rfl rfl) h0
  clear hA0 hval0
  refine (walk_FnExactFixedPoints a0 W w0 hMl).mono fun e W' ⟨he, bel⟩ => ?_
  subst he
  exact ChangeSpec.post_blind ⟨_, _, _, [], _, [], hW', trodAll_mk1 (shut_bool Tryd.underlying4 _), (trodAll_cons_mk (shut_string Tryd.underlying9 w0) trodAll_mk0), rfl, bel.frame _, fun h => by cases h⟩

theorem over : Rows.fnExactFixedPointsRow.holds Tryd.pinned (OpenSpec.ofChange Rows.fnExactFixedPointsSpec) :=
  OpenClaim.holds_of_wide 10 Tryd.f10 rfl rfl rfl rfl rfl rfl rfl ⟨rfl, rfl, rfl, rfl, rfl⟩ rfl rfl rfl rfl rfl (by kernel_rfl) Tryd.func10 (by kernel_rfl)
    (of_decide_eq_true (by kernel_rfl)) (by unfold Func.isWrapper; first | (rw [if_pos (by decide +kernel)]; kernel_rfl) | (rw [if_neg (by decide +kernel)]; exact ⟨rfl, rfl⟩))
    (fun os started H enc _ => lifted os started H enc)

theorem card : Rows.FnExactFixedPointsCardSaid :=
  Claim7.holds_tied_plain_at .later [] [.data, .pinned] true _ false over (fun _ h => by cases h) (by kernel_rfl) (fun _ h => by cases h) fnExactFixedPoints_row_tie rfl ⟨rfl, rfl⟩ (by kernel_rfl) rfl
    (fun f fn hf hfn => by
      obtain rfl : f = 10 := Option.some.inj ((show Tryd.prog.funcNamed Tryd.f10.name = some 10 by kernel_rfl).symm.trans hf) |>.symm
      obtain rfl : fn = Tryd.f10 := (Option.some.inj (Tryd.func10.symm.trans hfn)).symm
      exact ⟨by kernel_rfl, fun j t ht => by
        rw [Tryd.params10] at ht
        have hm : t ∈ [9] := by simpa using Array.mem_of_getElem? ht
        have hall : ([9].all fun u => !Tryd.prog.wantsStandIn u) = true := by kernel_rfl
        exact (show Tryd.prog.wantsStandIn t = false by simpa using List.all_eq_true.1 hall t hm)⟩)
    (by kernel_rfl)
end fnExactFixedPoints

theorem fnExactFixedPoints_card : Rows.FnExactFixedPointsCardSaid := fnExactFixedPoints.card
#print axioms fnExactFixedPoints_card
end Go.Proofs.YtnplaiolencgjaaDoor
