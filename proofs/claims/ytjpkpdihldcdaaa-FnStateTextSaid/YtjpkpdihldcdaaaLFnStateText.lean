/-
  'laws.FnStateText' returns true for every input, and each argument reads behind the call as it read before. No conditions.
-/
import Derived.Test.YtjpkpdihldcdaaaRows
import Derived.Test.YtjpkpdihldcdaaaWx
import Derived.Test.YtjpkpdihldcdaaaPj
import Derived.Test.YtjpkpdihldcdaaaWd6
import Derived.Test.YtjpkpdihldcdaaaWf
import Derived.Test.YtjpkpdihldcdaaaWa
import Derived.WalkKit
import Derived.ProofKit
import Derived.OpenShut
import Derived.ShutString
import Derived.ChangeOld
import Derived.Below
import Derived.SliceStrings
namespace Go.Proofs.Ytjpkpdihldcdaaa
set_option linter.unusedVariables false
set_option linter.unusedSimpArgs false
namespace fnStateText
open Go.ChangeShapes Go.WideShapes Go.ChangeAt Go.RowKit
open Go.ChangeMaps (open_string shut_string)
open Go.RowKit
set_option linter.unusedVariables false

theorem fs_all : ∀ n < 6, 1 ≤ n → ∀ s < 2 ^ n, isState (fsL s n) = true ∧ stN (fsL s n) n = s ∧ (fsL s n).length = n := by decide +kernel
theorem st_all : ∀ n < 6, ∀ t ∈ allT n, t.all zb = true → fsL (stN t n) n = t ∧ stN t n < 2 ^ n := by decide +kernel

theorem f_no (s N : Int) (h : fsOk s N = false) : (∀ w0, Co w0 61 #[.int .i64 s, .int .i64 N] (.string ⟨#[]⟩)) ∧ (∀ w0, Co w0 62 #[.int .i64 s, .int .i64 N] (.string ⟨#[]⟩)) :=
  ⟨fun w0 => (co w0 fun w => formatStateI s N w).as (str_eq (strI_no h)), fun w0 => (co w0 fun w => formatStateS s N w).as (str_eq (strI_no h))⟩
theorem f_yes (s N : Int) (h : fsOk s N = true) : ∃ (t : ByteArray) (m : Nat), N = (m : Int) ∧ t.size = m ∧ 1 ≤ m ∧ m ≤ 5 ∧ (∀ w0, Co w0 61 #[.int .i64 s, .int .i64 N] (.string t)) ∧ (∀ w0, Co w0 62 #[.int .i64 s, .int .i64 N] (.string t)) ∧
    (∀ w0, Co w0 63 #[.string t] (.tuple #[.int .i64 s, .int .i64 N, .bool true])) := by
  have h' := h
  unfold fsOk at h'
  simp only [Bool.and_eq_true, decide_eq_true_eq] at h'
  obtain ⟨⟨h1, h5⟩, h0, hs⟩ := h'
  obtain ⟨n, rfl⟩ := Int.eq_ofNat_of_zero_le (show 0 ≤ N by omega)
  obtain ⟨s, rfl⟩ := Int.eq_ofNat_of_zero_le h0
  rw [Int.toNat_natCast] at hs
  obtain ⟨e1, e2, e3⟩ := fs_all n (by omega) (by omega) s (by omega)
  have hsz : (⟨(fsL s n).toArray⟩ : ByteArray).size = n := by show (fsL s n).toArray.size = n; simp [e3]
  refine ⟨⟨(fsL s n).toArray⟩, n, rfl, hsz, by omega, by omega, fun w0 => (co w0 fun w => formatStateI s n w).as (str_eq ((strI_yes h rfl).trans (by rw [Int.toNat_natCast, Int.toNat_natCast]))), fun w0 => (co w0 fun w => formatStateS s n w).as (str_eq ((strI_yes h rfl).trans (by rw [Int.toNat_natCast, Int.toNat_natCast]))), fun w0 => ?_⟩
  refine (co0 w0 fun w => parseStateI ⟨(fsL s n).toArray⟩ w (by rw [hsz]; unfold maxLen; omega)).as ?_
  show psV (fsL s n) = _
  unfold psV
  rw [if_pos e1, e3, e2]
theorem p_no (t : ByteArray) (ht : t.size ≤ 100) (h : isState t.data.toList = false) : (∀ w0, Co w0 63 #[.string t] (.tuple #[.int .i64 0, .int .i64 0, .bool false])) ∧ (∀ w0, Co w0 65 #[.string t] (.tuple #[.int .i64 0, .int .i64 0, .bool false])) := by
  have f : t.size ≤ maxLen := by unfold maxLen; omega
  have e : psV t.data.toList = .tuple #[.int .i64 0, .int .i64 0, .bool false] := by unfold psV; rw [h]; rfl
  exact ⟨fun w0 => (co0 w0 fun w => parseStateI t w f).as e, fun w0 => (co0 w0 fun w => parseStateS t w f).as e⟩
theorem p_yes (t : ByteArray) (ht : t.size ≤ 100) (h : isState t.data.toList = true) : ∃ k m : Int, (∀ w0, Co w0 63 #[.string t] (.tuple #[.int .i64 k, .int .i64 m, .bool true])) ∧ (∀ w0, Co w0 65 #[.string t] (.tuple #[.int .i64 k, .int .i64 m, .bool true])) ∧
    (∀ w0, Co w0 61 #[.int .i64 k, .int .i64 m] (.string t)) := by
  have f : t.size ≤ maxLen := by unfold maxLen; omega
  have e : psV t.data.toList = .tuple #[.int .i64 (stN t.data.toList t.data.toList.length), .int .i64 t.data.toList.length, .bool true] := by unfold psV; rw [h]; rfl
  have h' := h
  unfold isState at h'
  simp only [Bool.and_eq_true, decide_eq_true_eq] at h'
  obtain ⟨⟨h1, h5⟩, hz⟩ := h'
  obtain ⟨e1, e2⟩ := st_all t.data.toList.length (by omega) t.data.toList (allT_mem _ _ rfl (zb_tb_all _ hz)) hz
  refine ⟨_, _, fun w0 => (co0 w0 fun w => parseStateI t w f).as e, fun w0 => (co0 w0 fun w => parseStateS t w f).as e, fun w0 => ?_⟩
  have hok : fsOk ((stN t.data.toList t.data.toList.length : Nat) : Int) ((t.data.toList.length : Nat) : Int) = true := by
    unfold fsOk
    rw [Int.toNat_natCast]
    simp only [Bool.and_eq_true, decide_eq_true_eq]
    omega
  refine (co w0 fun w => formatStateI _ _ w).as (str_eq ((strI_yes hok rfl).trans ?_))
  rw [Int.toNat_natCast, Int.toNat_natCast, e1]

set_option maxRecDepth 100000 in
set_option maxHeartbeats 2000000 in
theorem walk_FnStateText (A : Option Addr) (n c : Nat) (A2 : Option Addr) (n2 c2 : Nat) (w : World) (h : ArgB w A n c) (h2 : ArgB w A2 n2 c2) :
    Calls Try.prog 11 #[.slice A n c, .slice A2 n2 c2] w fun e w' => e = .returned (.bool true) ∧ Below w.heap.size w w' := by
  have hnm := Nat.le_trans h.1 h.2.1
  have hnm2 := Nat.le_trans h2.1 h2.2.1
  unfold maxLen at hnm hnm2
  by_cases hbig : 1048576 < n
  · go_enter Try.func11, Try.ntmps11
    go_wp2_with fail
    go_ret
    exact ⟨rfl, Below.refl _ _⟩
  by_cases hbig2 : 1048576 < n2
  · go_enter Try.func11, Try.ntmps11
    go_wp2_with fail
    go_ret
    exact ⟨rfl, Below.refl _ _⟩
  go_enter Try.func11, Try.ntmps11
  go_wp2_with fail
  refine (drawFormatStateS A n c w h).mono ?_
  rintro e wz ⟨s, N, hs1, hs2, hN1, hN2, rfl, hB⟩
  have H2 := Lib.hid h2
  clear h h2
  cases hok : fsOk s N
  · obtain ⟨d1, d2⟩ := f_no s N hok
    have c1 := Lib.hid d1
    have c2 := Lib.hid d2
    clear hok d1 d2
    go_wp2_with (first | (go_at_call 61; (with_reducible refine (((c1).out _).at hB).mono ?_); rintro e w1 ⟨rfl, hB⟩) | (go_at_call 62; (with_reducible refine (((c2).out _).at hB).mono ?_); rintro e w1 ⟨rfl, hB⟩) | fail)
    refine (drawParseStateS A2 n2 _ _ (H2.out.keep hB)).mono ?_
    rintro e wy ⟨t, ht, rfl, hb9⟩
    have hB := hB.trans (hb9.mono hB.size)
    cases hst : isState t.data.toList
    · obtain ⟨d3, d4⟩ := p_no t ht hst
      have c3 := Lib.hid d3
      have c4 := Lib.hid d4
      clear hst d3 d4
      go_wp2_with (first | (go_at_call 63; (with_reducible refine (((c3).out _).at hB).mono ?_); rintro e w1 ⟨rfl, hB⟩) | (go_at_call 65; (with_reducible refine (((c4).out _).at hB).mono ?_); rintro e w1 ⟨rfl, hB⟩) | fail)
      go_ret
      exact ⟨rfl, hB⟩
    · obtain ⟨k, m, d3, d4, d5⟩ := p_yes t ht hst
      have c3 := Lib.hid d3
      have c4 := Lib.hid d4
      have c5 := Lib.hid d5
      clear hst d3 d4 d5 c1 c2
      go_wp2_with (first | (go_at_call 63; (with_reducible refine (((c3).out _).at hB).mono ?_); rintro e w1 ⟨rfl, hB⟩) | (go_at_call 65; (with_reducible refine (((c4).out _).at hB).mono ?_); rintro e w1 ⟨rfl, hB⟩) | (go_at_call 61; (with_reducible refine (((c5).out _).at hB).mono ?_); rintro e w1 ⟨rfl, hB⟩) | fail)
      go_ret
      exact ⟨rfl, hB⟩
  · obtain ⟨tt, mm, rfl, htt, hm1, hm5, d1, d2, d6⟩ := f_yes s N hok
    have c1 := Lib.hid d1
    have c2 := Lib.hid d2
    have c6 := Lib.hid d6
    have hne : tt.toList.isEmpty = false := by
      rw [ByteArray.toList_eq]
      have : tt.data.toList ≠ [] := by intro h; have : tt.data.toList.length = 0 := by rw [h]; rfl
                                       have : tt.size = 0 := this; omega
      simpa using this
    have hne2 : (tt.toList == []) = false := by
      rw [ByteArray.toList_eq]
      have : tt.data.toList ≠ [] := by intro h; have : tt.data.toList.length = 0 := by rw [h]; rfl
                                       have : tt.size = 0 := this; omega
      simpa using this
    obtain rfl : mm = tt.size := htt.symm
    clear hok d1 d2 d6 htt
    go_wp2_with (first | (go_at_call 61; (with_reducible refine (((c1).out _).at hB).mono ?_); rintro e w1 ⟨rfl, hB⟩) | (go_at_call 62; (with_reducible refine (((c2).out _).at hB).mono ?_); rintro e w1 ⟨rfl, hB⟩) | (go_at_call 63; (with_reducible refine (((c6).out _).at hB).mono ?_); rintro e w1 ⟨rfl, hB⟩) | fail)
    refine (drawParseStateS A2 n2 _ _ (H2.out.keep hB)).mono ?_
    rintro e wy ⟨t, ht, rfl, hb9⟩
    have hB := hB.trans (hb9.mono hB.size)
    cases hst : isState t.data.toList
    · obtain ⟨d3, d4⟩ := p_no t ht hst
      have c3 := Lib.hid d3
      have c4 := Lib.hid d4
      clear hst d3 d4
      go_wp2_with (first | (go_at_call 63; (with_reducible refine (((c3).out _).at hB).mono ?_); rintro e w1 ⟨rfl, hB⟩) | (go_at_call 65; (with_reducible refine (((c4).out _).at hB).mono ?_); rintro e w1 ⟨rfl, hB⟩) | fail)
      go_ret
      exact ⟨rfl, hB⟩
    · obtain ⟨k, m, d3, d4, d5⟩ := p_yes t ht hst
      have c3 := Lib.hid d3
      have c4 := Lib.hid d4
      have c5 := Lib.hid d5
      clear hst d3 d4 d5 c1 c2
      go_wp2_with (first | (go_at_call 63; (with_reducible refine (((c3).out _).at hB).mono ?_); rintro e w1 ⟨rfl, hB⟩) | (go_at_call 65; (with_reducible refine (((c4).out _).at hB).mono ?_); rintro e w1 ⟨rfl, hB⟩) | (go_at_call 61; (with_reducible refine (((c5).out _).at hB).mono ?_); rintro e w1 ⟨rfl, hB⟩) | fail)
      go_ret
      exact ⟨rfl, hB⟩


theorem own : ownKnob Try.prog.godebug = none := by kernel_rfl
theorem laidOut : laidOutB Try.prog = true := by kernel_rfl

set_option maxRecDepth 100000 in
theorem lifted (os : Os) (started : os.Started) (H : Type) (enc : TypeId × Value → H) :
    ReturnsInHanded {} Try.checked os 11 .any (Rows.fnStateTextSpec.pre6 enc Try.prog Try.f11 Rows.fnStateTextRow.domain false) (Rows.fnStateTextSpec.post enc Try.prog Try.f11 false true false false) := by
  refine returnsInHanded_of_change (C := Try.checked) own started (by kernel_rfl) Try.func11
    (ChangeSpec.witness6 (enc := enc) (C := Try.checked) false ⟨#[], #[.slice none 0 0, .slice none 0 0], []⟩ 8 (by kernel_rfl) (by kernel_rfl) (by kernel_rfl) (by kernel_rfl)) ?_
  intro W base args ds gs before hval0 hW hcnd _
  have hval : ∀ (j : Nat) t v, Try.f11.params[j]? = some t → args[j]? = some v → Value.okWide Try.prog W .any base t v := hval0
  have hW' := hW
  obtain ⟨p, q, hA0, hV, rfl, hfz, hnd⟩ := hW
  have hA : DataW.TrodAll enc Try.prog W 0 (fun _ => true) true Try.f11.params.toList args.toList ds p := hA0
  rw [Try.params11] at hA hval
  obtain ⟨v0, vs0, d0, ds0, p0, q0, hargs, rfl, rfl, h0, r0⟩ := trodAll_cons hA
  obtain ⟨v1, vs1, d1, ds1, p1, q1, rfl, rfl, rfl, h1, r1⟩ := trodAll_cons r0
  obtain ⟨rfl, rfl, rfl⟩ := trodAll_nil r1
  obtain rfl : args = #[v0, v1] := by cases args; simp_all
  obtain ⟨rfl, rfl⟩ := trodVars_none hV
  obtain ⟨a0, len0, cap0, rfl⟩ := okWide_slice Try.underlying22 (hval 0 22 v0 rfl rfl)
  have k0 := h0
  have lt0 : ∀ x ∈ p0, x.block < W.heap.size := by obtain ⟨m, hm⟩ := k0; exact DataW.trod_lt m _ _ _ hm
  have w0 : ArgB W a0 len0 cap0 := by
    obtain ⟨fuel, hf⟩ := h0
    rcases open_ints Try.underlying22 Try.underlying5 (by kernel_rfl) hf with ⟨hcs, _⟩ | ⟨x, l, c, zs, hcs, _, hl, hm, hz, _, hcell, hwz⟩
    · simp [Value.cells] at hcs
      obtain ⟨rfl, rfl, rfl⟩ := hcs
      exact ⟨Nat.le_refl _, Nat.zero_le _, fun h => absurd rfl h⟩
    · simp [Value.cells] at hcs
      obtain ⟨rfl, rfl, rfl⟩ := hcs
      exact argB_of W _ _ _ zs hl hm (by simpa using hz) hcell hwz
  obtain ⟨a1, len1, cap1, rfl⟩ := okWide_slice Try.underlying22 (hval 1 22 v1 rfl rfl)
  have k1 := h1
  have lt1 : ∀ x ∈ p1, x.block < W.heap.size := by obtain ⟨m, hm⟩ := k1; exact DataW.trod_lt m _ _ _ hm
  have w1 : ArgB W a1 len1 cap1 := by
    obtain ⟨fuel, hf⟩ := h1
    rcases open_ints Try.underlying22 Try.underlying5 (by kernel_rfl) hf with ⟨hcs, _⟩ | ⟨x, l, c, zs, hcs, _, hl, hm, hz, _, hcell, hwz⟩
    · simp [Value.cells] at hcs
      obtain ⟨rfl, rfl, rfl⟩ := hcs
      exact ⟨Nat.le_refl _, Nat.zero_le _, fun h => absurd rfl h⟩
    · simp [Value.cells] at hcs
      obtain ⟨rfl, rfl, rfl⟩ := hcs
      exact argB_of W _ _ _ zs hl hm (by simpa using hz) hcell hwz
  clear hA0 hval0
  refine (walk_FnStateText a0 len0 cap0 a1 len1 cap1 W w0 w1).mono fun e W' ⟨he, bel⟩ => ?_
  subst he
  exact ⟨_, rfl, _, _, _, [], _, [], hW', trodAll_mk1 (shut_bool Try.underlying4 _), (trodAll_cons_mk (Below.trod laidOut (by kernel_rfl) (of_decide_eq_true (by kernel_rfl)) k0 bel lt0) (trodAll_cons_mk (Below.trod laidOut (by kernel_rfl) (of_decide_eq_true (by kernel_rfl)) k1 bel lt1) trodAll_mk0)), rfl, bel.frame _, fun h => by cases h⟩

theorem over : Rows.fnStateTextRow.holds Try.pinned (OpenSpec.ofChange Rows.fnStateTextSpec) :=
  OpenClaim.holds_of_wide 11 Try.f11 rfl rfl rfl rfl rfl rfl rfl ⟨rfl, rfl, rfl, rfl, rfl⟩ rfl rfl rfl rfl rfl (by kernel_rfl) Try.func11 (by kernel_rfl)
    (of_decide_eq_true (by kernel_rfl)) (by unfold Func.isWrapper; first | (rw [if_pos (by decide +kernel)]; kernel_rfl) | (rw [if_neg (by decide +kernel)]; exact ⟨rfl, rfl⟩))
    (fun os started H enc _ => lifted os started H enc)
end fnStateText

theorem fnStateText_holds : Rows.FnStateTextSaid := fnStateText.over
#print axioms fnStateText_holds
end Go.Proofs.Ytjpkpdihldcdaaa
