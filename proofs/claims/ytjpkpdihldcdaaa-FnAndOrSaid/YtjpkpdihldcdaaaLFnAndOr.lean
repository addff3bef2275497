/-
  'laws.FnAndOr' returns true for every input, and each argument reads behind the call as it read before. No conditions.
-/
import Derived.Test.YtjpkpdihldcdaaaRows
import Derived.Test.YtjpkpdihldcdaaaWx
import Derived.WalkKit
import Derived.ProofKit
import Derived.OpenShut
import Derived.ShutString
import Derived.ChangeOld
import Derived.Below
import Derived.SliceStrings
namespace Go.Proofs.Ytjpkpdihldcdaaa
namespace fnAndOr
open Go.ChangeShapes Go.WideShapes Go.ChangeAt Go.RowKit
open Go.ChangeMaps (open_string shut_string)
open Go.RowKit
set_option linter.unusedVariables false

theorem no_facts (F G : ByteArray) (hF : F.size ≤ 100) (hG : G.size ≤ 100) (w0 : World) (hb : bothOk F.data.toList G.data.toList = false) :
    Hid (Co w0 24 #[.string F, .string G] (.tuple #[.string ⟨#[]⟩, .bool false])) ∧ Hid (Co w0 25 #[.string F, .string G] (.tuple #[.string ⟨#[]⟩, .bool false])) ∧
    Hid (Co w0 26 #[.string F, .string G] (.tuple #[.string ⟨#[]⟩, .bool false])) ∧ Hid (Co w0 27 #[.string F, .string G] (.tuple #[.string ⟨#[]⟩, .bool false])) := by
  have f1 : F.size ≤ maxLen := by unfold maxLen; omega
  have f2 : G.size ≤ maxLen := by unfold maxLen; omega
  exact ⟨(co w0 fun w => andTablesI F G w f1 f2).as (sb_eq (strI_no hb) hb), (co w0 fun w => andTablesS F G w f1 f2).as (sb_eq (strI_no hb) hb), (co w0 fun w => orTablesI F G w f1 f2).as (sb_eq (strI_no hb) hb), (co w0 fun w => orTablesS F G w f1 f2).as (sb_eq (strI_no hb) hb)⟩

theorem both_T (F G : ByteArray) (hb : bothOk F.data.toList G.data.toList = true) : ∃ n g h, 1 ≤ n ∧ n ≤ 5 ∧ (∀ s, g s ≤ 1) ∧ (∀ s, h s ≤ 1) ∧ F = T n g ∧ G = T n h := by
  unfold bothOk at hb
  simp only [Bool.and_eq_true, decide_eq_true_eq] at hb
  obtain ⟨b1, b2, b3⟩ := hb
  obtain ⟨n, g, h1, h5, hg, rfl⟩ := tab_T F b1
  obtain ⟨m, h, h1', h5', hh, rfl⟩ := tab_T G b2
  rw [len_T, len_T] at b3
  have : n = m := by rw [← lgN_pow n h1 h5, b3, lgN_pow m h1' h5']
  subst this
  exact ⟨n, g, h, h1, h5, hg, hh, rfl, rfl⟩

theorem yes_facts (F G : ByteArray) (w0 : World) (hb : bothOk F.data.toList G.data.toList = true) : ∃ A O X Y D P Q N : ByteArray,
    Hid (Co w0 24 #[.string F, .string G] (.tuple #[.string A, .bool true])) ∧ Hid (Co w0 25 #[.string F, .string G] (.tuple #[.string A, .bool true])) ∧
    Hid (Co w0 26 #[.string F, .string G] (.tuple #[.string O, .bool true])) ∧ Hid (Co w0 27 #[.string F, .string G] (.tuple #[.string O, .bool true])) ∧
    Hid (Co w0 28 #[.string F] (.tuple #[.string X, .bool true])) ∧ Hid (Co w0 29 #[.string F] (.tuple #[.string X, .bool true])) ∧
    Hid (Co w0 28 #[.string G] (.tuple #[.string Y, .bool true])) ∧ Hid (Co w0 28 #[.string A] (.tuple #[.string D, .bool true])) ∧
    Hid (Co w0 26 #[.string X, .string Y] (.tuple #[.string D, .bool true])) ∧
    Hid (Co w0 21 #[.string F] (.tuple #[.string P, .bool true])) ∧ Hid (Co w0 21 #[.string G] (.tuple #[.string Q, .bool true])) ∧ Hid (Co w0 21 #[.string A] (.tuple #[.string N, .bool true])) ∧
    Hid (Co w0 26 #[.string P, .string Q] (.tuple #[.string N, .bool true])) ∧ Hid (Co w0 26 #[.string F, .string A] (.tuple #[.string F, .bool true])) ∧
    Hid (Co w0 28 #[.string X] (.tuple #[.string F, .bool true])) ∧ Hid (Co w0 24 #[.string G, .string F] (.tuple #[.string A, .bool true])) := by
  obtain ⟨n, g, h, h1, h5, hg, hh, rfl, rfl⟩ := both_T F G hb
  have ha : ∀ s, g s * h s ≤ 1 := fun s => Nat.mul_le_mul (hg s) (hh s)
  have hd : ∀ (k : Nat → Nat) s, 1 - k s ≤ 1 := fun k s => Nat.sub_le _ _
  refine ⟨_, _, _, _, _, _, _, _, tAndI w0 h1 h5 hg hh, tAndS w0 h1 h5 hg hh, tOrI w0 h1 h5 hg hh, tOrS w0 h1 h5 hg hh, tDualI w0 h1 h5 hg, tDualS w0 h1 h5 hg, tDualI w0 h1 h5 hh, tDualI w0 h1 h5 ha, ?_, tNotI w0 h1 h5 hg, tNotI w0 h1 h5 hh, tNotI w0 h1 h5 ha, ?_, ?_, ?_, ?_⟩
  · exact (tOrI w0 h1 h5 (fun s => hd (fun s => g (2 ^ n - 1 - s)) s) (fun s => hd (fun s => h (2 ^ n - 1 - s)) s)).as (sb_eq (dual_and_T hg hh) rfl)
  · exact (tOrI w0 h1 h5 (fun s => hd g s) (fun s => hd h s)).as (sb_eq (not_and_T hg hh) rfl)
  · exact (tOrI w0 h1 h5 hg ha).as (sb_eq (or_and_T hg hh) rfl)
  · exact (tDualI w0 h1 h5 (fun s => hd (fun s => g (2 ^ n - 1 - s)) s)).as (sb_eq (dual_dual_T hg) rfl)
  · exact (tAndI w0 h1 h5 hh hg).as (sb_eq and_comm_T rfl)

set_option maxRecDepth 100000 in
set_option maxHeartbeats 1000000 in
theorem walk_FnAndOr (A : Option Addr) (n c : Nat) (w : World) (h : ArgB w A n c) :
    Calls Try.prog 4 #[.slice A n c] w fun e w' => e = .returned (.bool true) ∧ Below w.heap.size w w' := by
  have hnm := Nat.le_trans h.1 h.2.1
  unfold maxLen at hnm
  by_cases hbig : 1048576 < n
  · go_enter Try.func4, Try.ntmps4
    go_wp2_with fail
    go_ret
    exact ⟨rfl, Below.refl _ _⟩
  go_enter Try.func4, Try.ntmps4
  go_wp2_with fail
  refine (drawAndTablesS A n c w h).mono ?_
  rintro e w1 ⟨F, G, hF, hG, rfl, hB⟩
  cases hb : bothOk F.data.toList G.data.toList
  · obtain ⟨c1, c2, c3, c4⟩ := no_facts F G hF hG w hb
    clear hb h
    go_wp2_with (first | (go_at_call 24; (with_reducible refine ((c1).out.at hB).mono ?_); rintro e w1 ⟨rfl, hB⟩) | (go_at_call 25; (with_reducible refine ((c2).out.at hB).mono ?_); rintro e w1 ⟨rfl, hB⟩) | (go_at_call 26; (with_reducible refine ((c3).out.at hB).mono ?_); rintro e w1 ⟨rfl, hB⟩) | (go_at_call 27; (with_reducible refine ((c4).out.at hB).mono ?_); rintro e w1 ⟨rfl, hB⟩) | fail)
    go_ret
    exact ⟨rfl, hB⟩
  · obtain ⟨A, O, X, Y, D, P, Q, N, c1, c2, c3, c4, c5, c6, c7, c8, c9, c10, c11, c12, c13, c14, c15, c16⟩ := yes_facts F G w hb
    clear hb h
    go_wp2_with (first | (go_at_call 24; (with_reducible refine ((c1).out.at hB).mono ?_); rintro e w1 ⟨rfl, hB⟩) | (go_at_call 25; (with_reducible refine ((c2).out.at hB).mono ?_); rintro e w1 ⟨rfl, hB⟩) | (go_at_call 26; (with_reducible refine ((c3).out.at hB).mono ?_); rintro e w1 ⟨rfl, hB⟩) | (go_at_call 27; (with_reducible refine ((c4).out.at hB).mono ?_); rintro e w1 ⟨rfl, hB⟩) | (go_at_call 28; (with_reducible refine ((c5).out.at hB).mono ?_); rintro e w1 ⟨rfl, hB⟩) | (go_at_call 29; (with_reducible refine ((c6).out.at hB).mono ?_); rintro e w1 ⟨rfl, hB⟩) | (go_at_call 28; (with_reducible refine ((c7).out.at hB).mono ?_); rintro e w1 ⟨rfl, hB⟩) | (go_at_call 28; (with_reducible refine ((c8).out.at hB).mono ?_); rintro e w1 ⟨rfl, hB⟩) | (go_at_call 26; (with_reducible refine ((c9).out.at hB).mono ?_); rintro e w1 ⟨rfl, hB⟩) | (go_at_call 21; (with_reducible refine ((c10).out.at hB).mono ?_); rintro e w1 ⟨rfl, hB⟩) | (go_at_call 21; (with_reducible refine ((c11).out.at hB).mono ?_); rintro e w1 ⟨rfl, hB⟩) | (go_at_call 21; (with_reducible refine ((c12).out.at hB).mono ?_); rintro e w1 ⟨rfl, hB⟩) | (go_at_call 26; (with_reducible refine ((c13).out.at hB).mono ?_); rintro e w1 ⟨rfl, hB⟩) | (go_at_call 26; (with_reducible refine ((c14).out.at hB).mono ?_); rintro e w1 ⟨rfl, hB⟩) | (go_at_call 28; (with_reducible refine ((c15).out.at hB).mono ?_); rintro e w1 ⟨rfl, hB⟩) | (go_at_call 24; (with_reducible refine ((c16).out.at hB).mono ?_); rintro e w1 ⟨rfl, hB⟩) | fail)
    go_ret
    exact ⟨rfl, hB⟩


theorem own : ownKnob Try.prog.godebug = none := by kernel_rfl
theorem laidOut : laidOutB Try.prog = true := by kernel_rfl

set_option maxRecDepth 100000 in
theorem lifted (os : Os) (started : os.Started) (H : Type) (enc : TypeId × Value → H) :
    ReturnsInHanded {} Try.checked os 4 .any (Rows.fnAndOrSpec.pre6 enc Try.prog Try.f4 Rows.fnAndOrRow.domain false) (Rows.fnAndOrSpec.post enc Try.prog Try.f4 false true false false) := by
  refine returnsInHanded_of_change (C := Try.checked) own started (by kernel_rfl) Try.func4
    (ChangeSpec.witness6 (enc := enc) (C := Try.checked) false ⟨#[], #[.slice none 0 0], []⟩ 8 (by kernel_rfl) (by kernel_rfl) (by kernel_rfl) (by kernel_rfl)) ?_
  intro W base args ds gs before hval0 hW hcnd _
  have hval : ∀ (j : Nat) t v, Try.f4.params[j]? = some t → args[j]? = some v → Value.okWide Try.prog W .any base t v := hval0
  have hW' := hW
  obtain ⟨p, q, hA0, hV, rfl, hfz, hnd⟩ := hW
  have hA : DataW.TrodAll enc Try.prog W 0 (fun _ => true) true Try.f4.params.toList args.toList ds p := hA0
  rw [Try.params4] at hA hval
  obtain ⟨v0, vs0, d0, ds0, p0, q0, hargs, rfl, rfl, h0, r0⟩ := trodAll_cons hA
  obtain ⟨rfl, rfl, rfl⟩ := trodAll_nil r0
  obtain rfl : args = #[v0] := by cases args; simp_all
  obtain ⟨rfl, rfl⟩ := trodVars_none hV
  obtain ⟨a0, len0, cap0, rfl⟩ := okWide_slice Try.underlying22 (hval 0 22 v0 rfl rfl)
  have k0 := h0
  have lt0 : ∀ x ∈ p0, x.block < W.heap.size := by obtain ⟨m, hm⟩ := k0; exact DataW.trod_lt m _ _ _ hm
  have w0 : ArgB W a0 len0 cap0 := by
    obtain ⟨fuel, hf⟩ := h0
    rcases open_ints Try.underlying22 Try.underlying5 (by kernel_rfl) hf with ⟨hcs, _⟩ | ⟨x, l, c, zs, hcs, _, hl, hm, hz, _, hcell, hwz⟩
    · simp [Value.cells] at hcs
      obtain ⟨rfl, rfl, rfl⟩ := hcs
      exact ⟨Nat.le_refl _, Nat.zero_le _, fun h => absurd rfl h⟩
    · simp [Value.cells] at hcs
      obtain ⟨rfl, rfl, rfl⟩ := hcs
      exact argB_of W _ _ _ zs hl hm (by simpa using hz) hcell hwz
  clear hA0 hval0
  refine (walk_FnAndOr a0 len0 cap0 W w0).mono fun e W' ⟨he, bel⟩ => ?_
  subst he
  exact ⟨_, rfl, _, _, _, [], _, [], hW', trodAll_mk1 (shut_bool Try.underlying4 _), (trodAll_cons_mk (Below.trod laidOut (by kernel_rfl) (of_decide_eq_true (by kernel_rfl)) k0 bel lt0) trodAll_mk0), rfl, bel.frame _, fun h => by cases h⟩

theorem over : Rows.fnAndOrRow.holds Try.pinned (OpenSpec.ofChange Rows.fnAndOrSpec) :=
  OpenClaim.holds_of_wide 4 Try.f4 rfl rfl rfl rfl rfl rfl rfl ⟨rfl, rfl, rfl, rfl, rfl⟩ rfl rfl rfl rfl rfl (by kernel_rfl) Try.func4 (by kernel_rfl)
    (of_decide_eq_true (by kernel_rfl)) (by unfold Func.isWrapper; first | (rw [if_pos (by decide +kernel)]; kernel_rfl) | (rw [if_neg (by decide +kernel)]; exact ⟨rfl, rfl⟩))
    (fun os started H enc _ => lifted os started H enc)
end fnAndOr

theorem fnAndOr_holds : Rows.FnAndOrSaid := fnAndOr.over
#print axioms fnAndOr_holds
end Go.Proofs.Ytjpkpdihldcdaaa
