/-
  'laws.FnFormula' returns true for every input, and each argument reads behind the call as it read before. No conditions.
-/
import Derived.Test.YtjpkpdihldcdaaaRows
import Derived.Test.YtjpkpdihldcdaaaWx
import Derived.Test.YtjpkpdihldcdaaaPl
import Derived.Test.YtjpkpdihldcdaaaWd7
import Derived.Test.YtjpkpdihldcdaaaWg9
import Derived.WalkKit
import Derived.ProofKit
import Derived.OpenShut
import Derived.ShutString
import Derived.ChangeOld
import Derived.Below
import Derived.SliceStrings
namespace Go.Proofs.Ytjpkpdihldcdaaa
set_option linter.unusedVariables false
set_option linter.unusedSimpArgs false
namespace fnFormula
open Go.ChangeShapes Go.WideShapes Go.ChangeAt Go.RowKit
open Go.ChangeMaps (open_string shut_string)
open Go.RowKit
set_option linter.unusedVariables false

theorem app_list (a b : ByteArray) : (a ++ b).data.toList = a.data.toList ++ b.data.toList := by rw [ByteArray.data_append, Array.toList_append]
theorem tof (E : ByteArray) (n : Nat) (a : Fm) (h1 : 1 ≤ n) (h5 : n ≤ 5) (h100 : E.size ≤ 100) (hpf : pf n 100 E.data.toList = some (a, [])) :
    fmOk E.data.toList (n : Int) = true ∧ strI true (tofL E.data.toList ((n : Nat) : Int).toNat) = T n (ev a) := by
  refine ⟨(fmOk_iff _ _).2 ⟨h1, h5, h100, a, hpf⟩, ?_⟩
  rw [Int.toNat_natCast, tofL_of _ _ _ hpf]
  rfl
theorem tofCo (E : ByteArray) (n : Nat) (a : Fm) (h1 : 1 ≤ n) (h5 : n ≤ 5) (h100 : E.size ≤ 100) (hpf : pf n 100 E.data.toList = some (a, [])) (w0 : World) :
    Co w0 67 #[.string E, .int .i64 (n : Int)] (.tuple #[.string (T n (ev a)), .bool true]) := by
  obtain ⟨e1, e2⟩ := tof E n a h1 h5 h100 hpf
  exact (co w0 fun w => tableOfI E n w (by unfold maxLen; omega)).as (sb_eq (by rw [e1]; exact e2) e1)

theorem facts (E : ByteArray) (n : Nat) (a : Fm) (h1 : 1 ≤ n) (h5 : n ≤ 5) (h100 : E.size ≤ 100) (hpf : pf n 100 E.data.toList = some (a, [])) : ∃ F X Z I O S : ByteArray,
    Hid (∀ w0, Co w0 67 #[.string E, .int .i64 (n : Int)] (.tuple #[.string F, .bool true])) ∧ Hid (∀ w0, Co w0 68 #[.string E, .int .i64 (n : Int)] (.tuple #[.string F, .bool true])) ∧
    Hid (∀ w0, Co w0 69 #[.string E, .int .i64 (n : Int)] (.bool true)) ∧ Hid (∀ w0, Co w0 70 #[.string E, .int .i64 (n : Int)] (.string S)) ∧ Hid (∀ w0, Co w0 71 #[.string E, .int .i64 (n : Int)] (.string S)) ∧
    Hid (∀ w0, Co w0 21 #[.string F] (.tuple #[.string X, .bool true])) ∧
    Hid (E.size < 100 → ∀ w0, Co w0 67 #[.string (⟨#[33]⟩ ++ E), .int .i64 (n : Int)] (.tuple #[.string X, .bool true])) ∧
    Hid (2 * E.size < 100 → ∀ w0, Co w0 67 #[.string (⟨#[38]⟩ ++ E ++ ⟨#[33]⟩ ++ E), .int .i64 (n : Int)] (.tuple #[.string Z, .bool true])) ∧
    Hid (2 * E.size < 100 → ∀ w0, Co w0 67 #[.string (⟨#[94]⟩ ++ E ++ E), .int .i64 (n : Int)] (.tuple #[.string Z, .bool true])) ∧
    Hid (2 * E.size < 100 → ∀ w0, Co w0 67 #[.string (⟨#[124]⟩ ++ E ++ ⟨#[97]⟩), .int .i64 (n : Int)] (.tuple #[.string O, .bool true])) ∧
    Hid (∀ w0, Co w0 34 #[.int .i64 (n : Int), .int .i64 0] (.tuple #[.string Z, .bool true])) ∧ Hid (∀ w0, Co w0 49 #[.int .i64 (n : Int), .int .i64 0] (.tuple #[.string I, .bool true])) ∧
    Hid (∀ w0, Co w0 26 #[.string F, .string I] (.tuple #[.string O, .bool true])) ∧ Hid (∀ w0, Co w0 16 #[.string F] (.int .i64 (n : Int))) ∧
    Hid (∀ w0, Co w0 69 #[.string (E ++ ⟨#[97]⟩), .int .i64 (n : Int)] (.bool false)) ∧ S.data.toList ≠ [] := by
  have fE : E.size ≤ maxLen := by unfold maxLen; omega
  have hl : E.data.toList.length = E.size := rfl
  obtain ⟨e1, e2⟩ := tof E n a h1 h5 h100 hpf
  have hg : ∀ s, ev a s ≤ 1 := fun s => ev_le n s a (pf_wf n 100 _ _ _ hpf)
  have hfm : fmOf E.data.toList ((n : Nat) : Int).toNat = a := by unfold fmOf; rw [Int.toNat_natCast, hpf]
  have hneg := fun h => fm_neg n E.data.toList a h hpf
  refine ⟨T n (ev a), T n (fun s => 1 - ev a s), T n (fun _ => 0), T n (fun s => bitN s 0), T n (fun s => max (ev a s) (bitN s 0)), ⟨(showL a).toArray⟩, ?_, ?_, ?_, ?_, ?_, ?_, ?_, ?_, ?_, ?_, ?_, ?_, ?_, ?_, ?_, ?_⟩
  · exact tofCo E n a h1 h5 h100 hpf
  · exact fun w0 => (co w0 fun w => tableOfS E n w fE).as (sb_eq (by rw [e1]; exact e2) e1)
  · exact fun w0 => (co w0 fun w => formulaValidI E n w fE).as (by rw [e1])
  · exact fun w0 => (co w0 fun w => showFormulaI E n w fE).as (str_eq (by rw [e1, hfm]; rfl))
  · exact fun w0 => (co0 w0 fun w => showFormulaS E n w fE).as (str_eq (by rw [e1, hfm]; rfl))
  · exact fun w0 => tNotI w0 h1 h5 hg
  · intro h w0
    refine tofCo _ n (.neg a) h1 h5 ?_ ?_ w0
    · rw [ByteArray.size_append]; have : (⟨#[33]⟩ : ByteArray).size = 1 := rfl; omega
    · rw [app_list]; exact hneg (by omega)
  · intro h w0
    refine (tofCo _ n (.two 38 a (.neg a)) h1 h5 ?_ ?_ w0).as (sb_eq (T_congr _ _ _ fun s _ => ?_) rfl)
    · rw [ByteArray.size_append, ByteArray.size_append, ByteArray.size_append]; have : (⟨#[33]⟩ : ByteArray).size = 1 := rfl; have : (⟨#[38]⟩ : ByteArray).size = 1 := rfl; omega
    · rw [app_list, app_list, app_list]
      have := fm_two n 38 E.data.toList (33 :: E.data.toList) a (.neg a) h5 (.inl rfl) (by simp only [List.length_cons]; omega) hpf (hneg (by omega))
      simpa using this
    · have := hg s
      show min (ev a s) (1 - ev a s) = 0
      omega
  · intro h w0
    refine (tofCo _ n (.two 94 a a) h1 h5 ?_ ?_ w0).as (sb_eq (T_congr _ _ _ fun s _ => ?_) rfl)
    · rw [ByteArray.size_append, ByteArray.size_append]; have : (⟨#[94]⟩ : ByteArray).size = 1 := rfl; omega
    · rw [app_list, app_list]
      have := fm_two n 94 E.data.toList E.data.toList a a h5 (.inr (.inr rfl)) (by omega) hpf hpf
      simpa using this
    · show (ev a s + ev a s) % 2 = 0
      omega
  · intro h w0
    refine (tofCo _ n (.two 124 a (.inp 97)) h1 h5 ?_ ?_ w0).as (sb_eq (T_congr _ _ _ fun s _ => rfl) rfl)
    · rw [ByteArray.size_append, ByteArray.size_append]; have : (⟨#[124]⟩ : ByteArray).size = 1 := rfl; have : (⟨#[97]⟩ : ByteArray).size = 1 := rfl; omega
    · rw [app_list, app_list]
      have := fm_two n 124 E.data.toList [97] a (.inp 97) h5 (.inr (.inl rfl)) (by simp only [List.length_cons, List.length_nil]; omega) hpf (fm_in n h1)
      simpa using this
  · exact fun w0 => tConstI w0 h1 h5 0 (by omega)
  · exact fun w0 => tInputI w0 h1 h5 0 (by omega)
  · exact fun w0 => tOrI w0 h1 h5 hg (fun s => bitN_le s 0)
  · exact fun w0 => tInputsI w0 h1 h5 hg
  · intro w0
    refine (co w0 fun w => formulaValidI _ n w (by rw [ByteArray.size_append]; have : (⟨#[97]⟩ : ByteArray).size = 1 := rfl; unfold maxLen; omega)).as ?_
    rw [app_list]
    exact congrArg _ (fm_more n E.data.toList a hpf)
  · simpa using showL_ne a

theorem no_facts (E : ByteArray) (N : Int) (hE : E.size ≤ 200) (h : fmOk E.data.toList N = false) :
    Hid (∀ w0, Co w0 67 #[.string E, .int .i64 N] (.tuple #[.string ⟨#[]⟩, .bool false])) ∧ Hid (∀ w0, Co w0 68 #[.string E, .int .i64 N] (.tuple #[.string ⟨#[]⟩, .bool false])) ∧
    Hid (∀ w0, Co w0 69 #[.string E, .int .i64 N] (.bool false)) ∧ Hid (∀ w0, Co w0 70 #[.string E, .int .i64 N] (.string ⟨#[]⟩)) ∧ Hid (∀ w0, Co w0 71 #[.string E, .int .i64 N] (.string ⟨#[]⟩)) := by
  have fE : E.size ≤ maxLen := by unfold maxLen; omega
  exact ⟨fun w0 => (co w0 fun w => tableOfI E N w fE).as (sb_eq (strI_no h) h), fun w0 => (co w0 fun w => tableOfS E N w fE).as (sb_eq (strI_no h) h), fun w0 => (co w0 fun w => formulaValidI E N w fE).as (by rw [h]), fun w0 => (co w0 fun w => showFormulaI E N w fE).as (str_eq (strI_no h)), fun w0 => (co0 w0 fun w => showFormulaS E N w fE).as (str_eq (strI_no h))⟩

set_option maxRecDepth 100000 in
set_option maxHeartbeats 4000000 in
theorem walk_FnFormula (A : Option Addr) (n c : Nat) (w : World) (h : ArgB w A n c) :
    Calls Try.prog 12 #[.slice A n c] w fun e w' => e = .returned (.bool true) ∧ Below w.heap.size w w' := by
  have hnm := Nat.le_trans h.1 h.2.1
  unfold maxLen at hnm
  by_cases hbig : 1048576 < n
  · go_enter Try.func12, Try.ntmps12
    go_wp2_with fail
    go_ret
    exact ⟨rfl, Below.refl _ _⟩
  go_enter Try.func12, Try.ntmps12
  go_wp2_with fail
  refine (drawTableOfS A n c w h).mono ?_
  rintro e wz ⟨E, N, hE, hN1, hN2, rfl, hB⟩
  clear h
  cases hok : fmOk E.data.toList N
  · obtain ⟨c1, c2, c3, c4, c5⟩ := no_facts E N hE hok
    clear hok
    go_wp2_with (first | (go_at_call 67; (with_reducible refine (((c1).out _).at hB).mono ?_); rintro e w1 ⟨rfl, hB⟩) | (go_at_call 68; (with_reducible refine (((c2).out _).at hB).mono ?_); rintro e w1 ⟨rfl, hB⟩) | (go_at_call 69; (with_reducible refine (((c3).out _).at hB).mono ?_); rintro e w1 ⟨rfl, hB⟩) | (go_at_call 70; (with_reducible refine (((c4).out _).at hB).mono ?_); rintro e w1 ⟨rfl, hB⟩) | (go_at_call 71; (with_reducible refine (((c5).out _).at hB).mono ?_); rintro e w1 ⟨rfl, hB⟩) | fail)
    go_ret
    exact ⟨rfl, hB⟩
  · obtain ⟨n0, a, rfl, h1, h5, h100, hpf⟩ := fmOk_parts _ _ hok
    have h100 : E.size ≤ 100 := h100
    obtain ⟨F, X, Z, I, O, S, c1, c2, c3, c4, c5, c6, c7, c8, c9, c10, c11, c12, c13, c14, c15, hS⟩ := facts E n0 a h1 h5 h100 hpf
    have hne : S.toList.isEmpty = false := by rw [ByteArray.toList_eq]; simpa using hS
    have hne2 : (S.toList == []) = false := by rw [ByteArray.toList_eq]; simpa using hS
    clear hok hpf hS hN1 hN2
    by_cases hb1 : E.size < 100
    · have d7 := Lib.hid (c7.out hb1)
      by_cases hb2 : 2 * E.size < 100
      · have d8 := Lib.hid (c8.out hb2)
        have d9 := Lib.hid (c9.out hb2)
        have d10 := Lib.hid (c10.out hb2)
        clear c7 c8 c9 c10
        go_wp2_with (first | (go_at_call 67; (with_reducible refine (((c1).out _).at hB).mono ?_); rintro e w1 ⟨rfl, hB⟩) | (go_at_call 68; (with_reducible refine (((c2).out _).at hB).mono ?_); rintro e w1 ⟨rfl, hB⟩) | (go_at_call 69; (with_reducible refine (((c3).out _).at hB).mono ?_); rintro e w1 ⟨rfl, hB⟩) | (go_at_call 70; (with_reducible refine (((c4).out _).at hB).mono ?_); rintro e w1 ⟨rfl, hB⟩) | (go_at_call 71; (with_reducible refine (((c5).out _).at hB).mono ?_); rintro e w1 ⟨rfl, hB⟩) | (go_at_call 21; (with_reducible refine (((c6).out _).at hB).mono ?_); rintro e w1 ⟨rfl, hB⟩) | (go_at_call 67; (with_reducible refine (((d7).out _).at hB).mono ?_); rintro e w1 ⟨rfl, hB⟩) | (go_at_call 67; (with_reducible refine (((d8).out _).at hB).mono ?_); rintro e w1 ⟨rfl, hB⟩) | (go_at_call 67; (with_reducible refine (((d9).out _).at hB).mono ?_); rintro e w1 ⟨rfl, hB⟩) | (go_at_call 67; (with_reducible refine (((d10).out _).at hB).mono ?_); rintro e w1 ⟨rfl, hB⟩) | (go_at_call 34; (with_reducible refine (((c11).out _).at hB).mono ?_); rintro e w1 ⟨rfl, hB⟩) | (go_at_call 49; (with_reducible refine (((c12).out _).at hB).mono ?_); rintro e w1 ⟨rfl, hB⟩) | (go_at_call 26; (with_reducible refine (((c13).out _).at hB).mono ?_); rintro e w1 ⟨rfl, hB⟩) | (go_at_call 16; (with_reducible refine (((c14).out _).at hB).mono ?_); rintro e w1 ⟨rfl, hB⟩) | (go_at_call 69; (with_reducible refine (((c15).out _).at hB).mono ?_); rintro e w1 ⟨rfl, hB⟩) | fail)
        all_goals
          go_ret
          exact ⟨rfl, hB⟩
      · clear c7 c8 c9 c10
        go_wp2_with (first | (go_at_call 67; (with_reducible refine (((c1).out _).at hB).mono ?_); rintro e w1 ⟨rfl, hB⟩) | (go_at_call 68; (with_reducible refine (((c2).out _).at hB).mono ?_); rintro e w1 ⟨rfl, hB⟩) | (go_at_call 69; (with_reducible refine (((c3).out _).at hB).mono ?_); rintro e w1 ⟨rfl, hB⟩) | (go_at_call 70; (with_reducible refine (((c4).out _).at hB).mono ?_); rintro e w1 ⟨rfl, hB⟩) | (go_at_call 71; (with_reducible refine (((c5).out _).at hB).mono ?_); rintro e w1 ⟨rfl, hB⟩) | (go_at_call 21; (with_reducible refine (((c6).out _).at hB).mono ?_); rintro e w1 ⟨rfl, hB⟩) | (go_at_call 67; (with_reducible refine (((d7).out _).at hB).mono ?_); rintro e w1 ⟨rfl, hB⟩) | (go_at_call 34; (with_reducible refine (((c11).out _).at hB).mono ?_); rintro e w1 ⟨rfl, hB⟩) | (go_at_call 49; (with_reducible refine (((c12).out _).at hB).mono ?_); rintro e w1 ⟨rfl, hB⟩) | (go_at_call 26; (with_reducible refine (((c13).out _).at hB).mono ?_); rintro e w1 ⟨rfl, hB⟩) | (go_at_call 16; (with_reducible refine (((c14).out _).at hB).mono ?_); rintro e w1 ⟨rfl, hB⟩) | (go_at_call 69; (with_reducible refine (((c15).out _).at hB).mono ?_); rintro e w1 ⟨rfl, hB⟩) | fail)
        all_goals
          go_ret
          exact ⟨rfl, hB⟩
    · clear c7 c8 c9 c10
      have hb2 : ¬ (2 * E.size < 100) := by omega
      go_wp2_with (first | (go_at_call 67; (with_reducible refine (((c1).out _).at hB).mono ?_); rintro e w1 ⟨rfl, hB⟩) | (go_at_call 68; (with_reducible refine (((c2).out _).at hB).mono ?_); rintro e w1 ⟨rfl, hB⟩) | (go_at_call 69; (with_reducible refine (((c3).out _).at hB).mono ?_); rintro e w1 ⟨rfl, hB⟩) | (go_at_call 70; (with_reducible refine (((c4).out _).at hB).mono ?_); rintro e w1 ⟨rfl, hB⟩) | (go_at_call 71; (with_reducible refine (((c5).out _).at hB).mono ?_); rintro e w1 ⟨rfl, hB⟩) | (go_at_call 21; (with_reducible refine (((c6).out _).at hB).mono ?_); rintro e w1 ⟨rfl, hB⟩) | (go_at_call 34; (with_reducible refine (((c11).out _).at hB).mono ?_); rintro e w1 ⟨rfl, hB⟩) | (go_at_call 49; (with_reducible refine (((c12).out _).at hB).mono ?_); rintro e w1 ⟨rfl, hB⟩) | (go_at_call 26; (with_reducible refine (((c13).out _).at hB).mono ?_); rintro e w1 ⟨rfl, hB⟩) | (go_at_call 16; (with_reducible refine (((c14).out _).at hB).mono ?_); rintro e w1 ⟨rfl, hB⟩) | (go_at_call 69; (with_reducible refine (((c15).out _).at hB).mono ?_); rintro e w1 ⟨rfl, hB⟩) | fail)
      all_goals
        go_ret
        exact ⟨rfl, hB⟩


theorem own : ownKnob Try.prog.godebug = none := by kernel_rfl
theorem laidOut : laidOutB Try.prog = true := by kernel_rfl

set_option maxRecDepth 100000 in
theorem lifted (os : Os) (started : os.Started) (H : Type) (enc : TypeId × Value → H) :
    ReturnsInHanded {} Try.checked os 12 .any (Rows.fnFormulaSpec.pre6 enc Try.prog Try.f12 Rows.fnFormulaRow.domain false) (Rows.fnFormulaSpec.post enc Try.prog Try.f12 false true false false) := by
  refine returnsInHanded_of_change (C := Try.checked) own started (by kernel_rfl) Try.func12
    (ChangeSpec.witness6 (enc := enc) (C := Try.checked) false ⟨#[], #[.slice none 0 0], []⟩ 8 (by kernel_rfl) (by kernel_rfl) (by kernel_rfl) (by kernel_rfl)) ?_
  intro W base args ds gs before hval0 hW hcnd _
  have hval : ∀ (j : Nat) t v, Try.f12.params[j]? = some t → args[j]? = some v → Value.okWide Try.prog W .any base t v := hval0
  have hW' := hW
  obtain ⟨p, q, hA0, hV, rfl, hfz, hnd⟩ := hW
  have hA : DataW.TrodAll enc Try.prog W 0 (fun _ => true) true Try.f12.params.toList args.toList ds p := hA0
  rw [Try.params12] at hA hval
  obtain ⟨v0, vs0, d0, ds0, p0, q0, hargs, rfl, rfl, h0, r0⟩ := trodAll_cons hA
  obtain ⟨rfl, rfl, rfl⟩ := trodAll_nil r0
  obtain rfl : args = #[v0] := by cases args; simp_all
  obtain ⟨rfl, rfl⟩ := trodVars_none hV
  obtain ⟨a0, len0, cap0, rfl⟩ := okWide_slice Try.underlying22 (hval 0 22 v0 rfl rfl)
  have k0 := h0
  have lt0 : ∀ x ∈ p0, x.block < W.heap.size := by obtain ⟨m, hm⟩ := k0; exact DataW.trod_lt m _ _ _ hm
  have w0 : ArgB W a0 len0 cap0 := by
    obtain ⟨fuel, hf⟩ := h0
    rcases open_ints Try.underlying22 Try.underlying5 (by kernel_rfl) hf with ⟨hcs, _⟩ | ⟨x, l, c, zs, hcs, _, hl, hm, hz, _, hcell, hwz⟩
    · simp [Value.cells] at hcs
      obtain ⟨rfl, rfl, rfl⟩ := hcs
      exact ⟨Nat.le_refl _, Nat.zero_le _, fun h => absurd rfl h⟩
    · simp [Value.cells] at hcs
      obtain ⟨rfl, rfl, rfl⟩ := hcs
      exact argB_of W _ _ _ zs hl hm (by simpa using hz) hcell hwz
  clear hA0 hval0
  refine (walk_FnFormula a0 len0 cap0 W w0).mono fun e W' ⟨he, bel⟩ => ?_
  subst he
  exact ⟨_, rfl, _, _, _, [], _, [], hW', trodAll_mk1 (shut_bool Try.underlying4 _), (trodAll_cons_mk (Below.trod laidOut (by kernel_rfl) (of_decide_eq_true (by kernel_rfl)) k0 bel lt0) trodAll_mk0), rfl, bel.frame _, fun h => by cases h⟩

theorem over : Rows.fnFormulaRow.holds Try.pinned (OpenSpec.ofChange Rows.fnFormulaSpec) :=
  OpenClaim.holds_of_wide 12 Try.f12 rfl rfl rfl rfl rfl rfl rfl ⟨rfl, rfl, rfl, rfl, rfl⟩ rfl rfl rfl rfl rfl (by kernel_rfl) Try.func12 (by kernel_rfl)
    (of_decide_eq_true (by kernel_rfl)) (by unfold Func.isWrapper; first | (rw [if_pos (by decide +kernel)]; kernel_rfl) | (rw [if_neg (by decide +kernel)]; exact ⟨rfl, rfl⟩))
    (fun os started H enc _ => lifted os started H enc)
end fnFormula

theorem fnFormula_holds : Rows.FnFormulaSaid := fnFormula.over
#print axioms fnFormula_holds
end Go.Proofs.Ytjpkpdihldcdaaa
