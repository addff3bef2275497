/-
  'laws.FnTable' returns true for every input, and each argument reads behind the call as it read before. No conditions.
-/
import Derived.Test.YtjpkpdihldcdaaaRows
import Derived.Test.YtjpkpdihldcdaaaWx
import Derived.WalkKit
import Derived.ProofKit
import Derived.OpenShut
import Derived.ShutString
import Derived.ChangeOld
import Derived.Below
import Derived.SliceStrings
namespace Go.Proofs.Ytjpkpdihldcdaaa
set_option linter.unusedVariables false
set_option linter.unusedSimpArgs false
namespace fnTable
open Go.ChangeShapes Go.WideShapes Go.ChangeAt Go.RowKit
open Go.ChangeMaps (open_string shut_string)
open Go.RowKit
set_option linter.unusedVariables false

theorem no_facts (F : ByteArray) (s : Int) (hF : F.size ≤ 100) (w0 : World) (hb : isTab F.data.toList = false) :
    Hid (Co w0 15 #[.string F] (.bool false)) ∧ Hid (Co w0 18 #[.string F] (.bool false)) ∧
    Hid (Co w0 16 #[.string F] (.int .i64 (-1))) ∧ Hid (Co w0 19 #[.string F] (.int .i64 (-1))) ∧
    Hid (Co w0 17 #[.string F, .int .i64 s] (.int .i64 (-1))) ∧ Hid (Co w0 20 #[.string F, .int .i64 s] (.int .i64 (-1))) := by
  have f1 : F.size ≤ maxLen := by unfold maxLen; omega
  exact ⟨(co w0 fun w => tableValidI F w f1).as (by rw [hb]), (co0 w0 fun w => tableValidS F w f1).as (by rw [hb]), (co w0 fun w => inputsOfI F w f1).as (by rw [inpL_no _ hb]), (co0 w0 fun w => inputsOfS F w f1).as (by rw [inpL_no _ hb]),
    (co w0 fun w => valueAtI F s w f1).as (by rw [valL_no _ _ (.inl hb)]), (co0 w0 fun w => valueAtS F s w f1).as (by rw [valL_no _ _ (.inl hb)])⟩

/-- What is known of a table. -/
def Facts (F G : ByteArray) (N : Nat) (g : Nat → Nat) (w0 : World) : Prop :=
    Hid (Co w0 15 #[.string F] (.bool true)) ∧ Hid (Co w0 18 #[.string F] (.bool true)) ∧
    Hid (Co w0 16 #[.string F] (.int .i64 (N : Int))) ∧ Hid (Co w0 19 #[.string F] (.int .i64 (N : Int))) ∧
    Hid (∀ k : Nat, k < 2 ^ N → Co w0 17 #[.string F, .int .i64 (k : Int)] (.int .i64 ((g k : Nat) : Int))) ∧
    Hid (∀ k : Nat, k < 2 ^ N → Co w0 20 #[.string F, .int .i64 (k : Int)] (.int .i64 ((g k : Nat) : Int))) ∧
    Hid (∀ k : Int, ¬ (0 ≤ k ∧ k < ((2 ^ N : Nat) : Int)) → Co w0 17 #[.string F, .int .i64 k] (.int .i64 (-1))) ∧
    Hid (∀ k : Int, ¬ (0 ≤ k ∧ k < ((2 ^ N : Nat) : Int)) → Co w0 20 #[.string F, .int .i64 k] (.int .i64 (-1))) ∧
    Hid (Co w0 21 #[.string F] (.tuple #[.string G, .bool true])) ∧ Hid (Co w0 22 #[.string F] (.tuple #[.string G, .bool true])) ∧
    Hid (Co w0 21 #[.string G] (.tuple #[.string F, .bool true])) ∧
    Hid (∀ k : Nat, k < 2 ^ N → Co w0 17 #[.string G, .int .i64 (k : Int)] (.int .i64 ((1 - g k : Nat) : Int))) ∧
    (∀ s, g s ≤ 1) ∧ 1 ≤ N ∧ N ≤ 5 ∧ Hid (F.size = 2 ^ N) ∧ Hid (F = ⟨(txt (2 ^ N) g).toArray⟩)

theorem yes_facts (F : ByteArray) (w0 : World) (hb : isTab F.data.toList = true) : ∃ G N g, Facts F G N g w0 := by
  obtain ⟨n, g, h1, h5, hg, rfl⟩ := tab_T F hb
  have hd : ∀ s, 1 - g s ≤ 1 := fun s => Nat.sub_le _ _
  exact ⟨_, n, g, tValidI w0 h1 h5 hg, tValidS w0 h1 h5 hg, tInputsI w0 h1 h5 hg, tInputsS w0 h1 h5 hg, tValueI w0 h1 h5 hg, tValueS w0 h1 h5 hg, tValueOutI w0 h1 h5 hg, tValueOutS w0 h1 h5 hg, tNotI w0 h1 h5 hg, tNotS w0 h1 h5 hg,
    (tNotI w0 h1 h5 hd).as (sb_eq (not_not_T hg) rfl), tValueI w0 h1 h5 hd, hg, h1, h5, T_size n g, rfl⟩

set_option maxRecDepth 100000 in
set_option maxHeartbeats 1000000 in
theorem walk_FnTable (A : Option Addr) (n c : Nat) (w : World) (h : ArgB w A n c) :
    Calls Try.prog 3 #[.slice A n c] w fun e w' => e = .returned (.bool true) ∧ Below w.heap.size w w' := by
  have hnm := Nat.le_trans h.1 h.2.1
  unfold maxLen at hnm
  by_cases hbig : 1048576 < n
  · go_enter Try.func3, Try.ntmps3
    go_wp2_with fail
    go_ret
    exact ⟨rfl, Below.refl _ _⟩
  go_enter Try.func3, Try.ntmps3
  go_wp2_with fail
  refine (drawValueAtS A n c w h).mono ?_
  rintro e w1 ⟨F, s, hF, hs1, hs2, rfl, hB⟩
  cases hb : isTab F.data.toList
  · obtain ⟨c1, c2, c3, c4, c5, c6⟩ := no_facts F s hF w hb
    clear hb h
    go_wp2_with (first | (go_at_call 15; (with_reducible refine ((c1).out.at hB).mono ?_); rintro e w1 ⟨rfl, hB⟩) | (go_at_call 18; (with_reducible refine ((c2).out.at hB).mono ?_); rintro e w1 ⟨rfl, hB⟩) | (go_at_call 16; (with_reducible refine ((c3).out.at hB).mono ?_); rintro e w1 ⟨rfl, hB⟩) | (go_at_call 19; (with_reducible refine ((c4).out.at hB).mono ?_); rintro e w1 ⟨rfl, hB⟩) | (go_at_call 17; (with_reducible refine ((c5).out.at hB).mono ?_); rintro e w1 ⟨rfl, hB⟩) | (go_at_call 20; (with_reducible refine ((c6).out.at hB).mono ?_); rintro e w1 ⟨rfl, hB⟩) | fail)
    go_ret
    exact ⟨rfl, hB⟩
  · obtain ⟨G, N, g, c1, c2, c3, c4, c5, c6, c7, c8, c9, c10, c11, c12, hg, h1, h5, hsz, hFt⟩ := yes_facts F w hb
    have hp := wrap_pow N h5
    have hm32 := pow_le32 N h5
    have hfs : F.size ≤ 32 := by rw [hsz.out]; exact hm32
    have hN0 : decide (0 < (N : Int)) = true := by simp; omega
    have HG := Lib.hid hg
    clear hb h hg
    obtain ⟨m, hm⟩ : ∃ m, m = 2 ^ N := ⟨_, rfl⟩
    rw [← hm] at hp hm32 c5 c6 c7 c8 c12 hsz hFt
    have hsm : F.size = m := hsz.out
    clear hm hsz
    subst hsm
    by_cases hin : 0 ≤ s ∧ s < ((F.size : Nat) : Int)
    · obtain ⟨k, rfl⟩ := Int.eq_ofNat_of_zero_le hin.1
      have hkm : k < F.size := by omega
      have d5 := Lib.hid (c5.out k hkm)
      have d6 := Lib.hid (c6.out k hkm)
      have d12 := Lib.hid (c12.out k hkm)
      have hgk := HG.out k
      clear hin c7 c8 c12 c6 hs1 hs2
      obtain ⟨v, hv⟩ : ∃ v, v = g k := ⟨_, rfl⟩
      rw [← hv] at d5 d6 d12 hgk
      clear hv
      go_wp2_with (first | (go_at_call 15; (with_reducible refine ((c1).out.at hB).mono ?_); rintro e w1 ⟨rfl, hB⟩) | (go_at_call 18; (with_reducible refine ((c2).out.at hB).mono ?_); rintro e w1 ⟨rfl, hB⟩) | (go_at_call 16; (with_reducible refine ((c3).out.at hB).mono ?_); rintro e w1 ⟨rfl, hB⟩) | (go_at_call 19; (with_reducible refine ((c4).out.at hB).mono ?_); rintro e w1 ⟨rfl, hB⟩) | (go_at_call 17; (with_reducible refine ((d5).out.at hB).mono ?_); rintro e w1 ⟨rfl, hB⟩) | (go_at_call 20; (with_reducible refine ((d6).out.at hB).mono ?_); rintro e w1 ⟨rfl, hB⟩) | fail)
      go_loopw [8, 9] (fun t j wr => ∃ (k : Nat) (O : ByteArray), k ≤ F.size ∧ j = .int .i64 k ∧ t = .string O ∧ O.size ≤ k ∧ Hid (O.data.toList = txt k g) ∧ Below w.heap.size w wr) (fun _ j _ => F.size - (intOf j).toNat)
      case atStart => exact ⟨0, _, Nat.zero_le _, rfl, rfl, Nat.le_refl _, rfl, hB⟩
      case round =>
        clear hB
        obtain ⟨j, O, hj, rfl, rfl, hO, hD, hB⟩ := hrel
        by_cases hlt : j < F.size
        · have HS := Lib.hid (txt_succ j g)
          have cj := Lib.hid (c5.out j hlt)
          have hgj := HG.out j
          generalize g j = a at HS cj hgj
          obtain rfl | rfl : a = 0 ∨ a = 1 := by omega
          all_goals
            go_wp2_with (first | (go_at_call 17; (with_reducible refine ((cj).out.at hB).mono ?_); rintro e w1 ⟨rfl, hB⟩) | fail)
            go_roundw
            case rel =>
              refine ⟨j + 1, _, by omega, by go_num, rfl, by simp; omega, ?_, hB⟩
              show _ = _
              rw [HS.out, ← hD.out]
              simp
            case measure => simp [intOf]; omega
        · obtain rfl : j = F.size := by omega
          have eO : O = F := by
            rw [hFt.out]
            rw [ba_list O, hD.out]
          subst eO
          clear hD hO hFt
          obtain rfl | rfl : v = 0 ∨ v = 1 := by omega
          all_goals
            go_wp2_with (first | (go_at_call 21; (with_reducible refine ((c9).out.at hB).mono ?_); rintro e w1 ⟨rfl, hB⟩) | (go_at_call 22; (with_reducible refine ((c10).out.at hB).mono ?_); rintro e w1 ⟨rfl, hB⟩) | (go_at_call 21; (with_reducible refine ((c11).out.at hB).mono ?_); rintro e w1 ⟨rfl, hB⟩) | (go_at_call 17; (with_reducible refine ((d12).out.at hB).mono ?_); rintro e w1 ⟨rfl, hB⟩) | fail)
            go_ret
            exact ⟨rfl, hB⟩
    · have d5 := Lib.hid (c7.out s hin)
      have d6 := Lib.hid (c8.out s hin)
      clear c7 c8 c12 c6
      have hss : (decide (0 ≤ s) && decide (s < (F.size : Int))) = false := by
        rw [Bool.eq_false_iff]; intro hh; simp only [Bool.and_eq_true, decide_eq_true_eq] at hh; exact hin hh
      by_cases hs0 : 0 ≤ s
      · have hsl : decide (s < (F.size : Int)) = false := by simp; omega
        clear hin hss
        go_wp2_with (first | (go_at_call 15; (with_reducible refine ((c1).out.at hB).mono ?_); rintro e w1 ⟨rfl, hB⟩) | (go_at_call 18; (with_reducible refine ((c2).out.at hB).mono ?_); rintro e w1 ⟨rfl, hB⟩) | (go_at_call 16; (with_reducible refine ((c3).out.at hB).mono ?_); rintro e w1 ⟨rfl, hB⟩) | (go_at_call 19; (with_reducible refine ((c4).out.at hB).mono ?_); rintro e w1 ⟨rfl, hB⟩) | (go_at_call 17; (with_reducible refine ((d5).out.at hB).mono ?_); rintro e w1 ⟨rfl, hB⟩) | (go_at_call 20; (with_reducible refine ((d6).out.at hB).mono ?_); rintro e w1 ⟨rfl, hB⟩) | fail)
        go_loopw [8, 9] (fun t j wr => ∃ (k : Nat) (O : ByteArray), k ≤ F.size ∧ j = .int .i64 k ∧ t = .string O ∧ O.size ≤ k ∧ Hid (O.data.toList = txt k g) ∧ Below w.heap.size w wr) (fun _ j _ => F.size - (intOf j).toNat)
        case atStart => exact ⟨0, _, Nat.zero_le _, rfl, rfl, Nat.le_refl _, rfl, hB⟩
        case round =>
          clear hB
          obtain ⟨j, O, hj, rfl, rfl, hO, hD, hB⟩ := hrel
          by_cases hlt : j < F.size
          · have HS := Lib.hid (txt_succ j g)
            have cj := Lib.hid (c5.out j hlt)
            have hgj := HG.out j
            generalize g j = a at HS cj hgj
            obtain rfl | rfl : a = 0 ∨ a = 1 := by omega
            all_goals
              go_wp2_with (first | (go_at_call 17; (with_reducible refine ((cj).out.at hB).mono ?_); rintro e w1 ⟨rfl, hB⟩) | fail)
              go_roundw
              case rel =>
                refine ⟨j + 1, _, by omega, by go_num, rfl, by simp; omega, ?_, hB⟩
                show _ = _
                rw [HS.out, ← hD.out]
                simp
              case measure => simp [intOf]; omega
          · obtain rfl : j = F.size := by omega
            have eO : O = F := by
              rw [hFt.out]
              rw [ba_list O, hD.out]
            subst eO
            clear hD hO hFt
            go_wp2_with (first | (go_at_call 21; (with_reducible refine ((c9).out.at hB).mono ?_); rintro e w1 ⟨rfl, hB⟩) | (go_at_call 22; (with_reducible refine ((c10).out.at hB).mono ?_); rintro e w1 ⟨rfl, hB⟩) | (go_at_call 21; (with_reducible refine ((c11).out.at hB).mono ?_); rintro e w1 ⟨rfl, hB⟩) | fail)
            go_ret
            exact ⟨rfl, hB⟩

      · have hsl : decide (0 ≤ s) = false := by simp; omega
        clear hin hss
        go_wp2_with (first | (go_at_call 15; (with_reducible refine ((c1).out.at hB).mono ?_); rintro e w1 ⟨rfl, hB⟩) | (go_at_call 18; (with_reducible refine ((c2).out.at hB).mono ?_); rintro e w1 ⟨rfl, hB⟩) | (go_at_call 16; (with_reducible refine ((c3).out.at hB).mono ?_); rintro e w1 ⟨rfl, hB⟩) | (go_at_call 19; (with_reducible refine ((c4).out.at hB).mono ?_); rintro e w1 ⟨rfl, hB⟩) | (go_at_call 17; (with_reducible refine ((d5).out.at hB).mono ?_); rintro e w1 ⟨rfl, hB⟩) | (go_at_call 20; (with_reducible refine ((d6).out.at hB).mono ?_); rintro e w1 ⟨rfl, hB⟩) | fail)
        go_loopw [8, 9] (fun t j wr => ∃ (k : Nat) (O : ByteArray), k ≤ F.size ∧ j = .int .i64 k ∧ t = .string O ∧ O.size ≤ k ∧ Hid (O.data.toList = txt k g) ∧ Below w.heap.size w wr) (fun _ j _ => F.size - (intOf j).toNat)
        case atStart => exact ⟨0, _, Nat.zero_le _, rfl, rfl, Nat.le_refl _, rfl, hB⟩
        case round =>
          clear hB
          obtain ⟨j, O, hj, rfl, rfl, hO, hD, hB⟩ := hrel
          by_cases hlt : j < F.size
          · have HS := Lib.hid (txt_succ j g)
            have cj := Lib.hid (c5.out j hlt)
            have hgj := HG.out j
            generalize g j = a at HS cj hgj
            obtain rfl | rfl : a = 0 ∨ a = 1 := by omega
            all_goals
              go_wp2_with (first | (go_at_call 17; (with_reducible refine ((cj).out.at hB).mono ?_); rintro e w1 ⟨rfl, hB⟩) | fail)
              go_roundw
              case rel =>
                refine ⟨j + 1, _, by omega, by go_num, rfl, by simp; omega, ?_, hB⟩
                show _ = _
                rw [HS.out, ← hD.out]
                simp
              case measure => simp [intOf]; omega
          · obtain rfl : j = F.size := by omega
            have eO : O = F := by
              rw [hFt.out]
              rw [ba_list O, hD.out]
            subst eO
            clear hD hO hFt
            go_wp2_with (first | (go_at_call 21; (with_reducible refine ((c9).out.at hB).mono ?_); rintro e w1 ⟨rfl, hB⟩) | (go_at_call 22; (with_reducible refine ((c10).out.at hB).mono ?_); rintro e w1 ⟨rfl, hB⟩) | (go_at_call 21; (with_reducible refine ((c11).out.at hB).mono ?_); rintro e w1 ⟨rfl, hB⟩) | fail)
            go_ret
            exact ⟨rfl, hB⟩


theorem own : ownKnob Try.prog.godebug = none := by kernel_rfl
theorem laidOut : laidOutB Try.prog = true := by kernel_rfl

set_option maxRecDepth 100000 in
theorem lifted (os : Os) (started : os.Started) (H : Type) (enc : TypeId × Value → H) :
    ReturnsInHanded {} Try.checked os 3 .any (Rows.fnTableSpec.pre6 enc Try.prog Try.f3 Rows.fnTableRow.domain false) (Rows.fnTableSpec.post enc Try.prog Try.f3 false true false false) := by
  refine returnsInHanded_of_change (C := Try.checked) own started (by kernel_rfl) Try.func3
    (ChangeSpec.witness6 (enc := enc) (C := Try.checked) false ⟨#[], #[.slice none 0 0], []⟩ 8 (by kernel_rfl) (by kernel_rfl) (by kernel_rfl) (by kernel_rfl)) ?_
  intro W base args ds gs before hval0 hW hcnd _
  have hval : ∀ (j : Nat) t v, Try.f3.params[j]? = some t → args[j]? = some v → Value.okWide Try.prog W .any base t v := hval0
  have hW' := hW
  obtain ⟨p, q, hA0, hV, rfl, hfz, hnd⟩ := hW
  have hA : DataW.TrodAll enc Try.prog W 0 (fun _ => true) true Try.f3.params.toList args.toList ds p := hA0
  rw [Try.params3] at hA hval
  obtain ⟨v0, vs0, d0, ds0, p0, q0, hargs, rfl, rfl, h0, r0⟩ := trodAll_cons hA
  obtain ⟨rfl, rfl, rfl⟩ := trodAll_nil r0
  obtain rfl : args = #[v0] := by cases args; simp_all
  obtain ⟨rfl, rfl⟩ := trodVars_none hV
  obtain ⟨a0, len0, cap0, rfl⟩ := okWide_slice Try.underlying22 (hval 0 22 v0 rfl rfl)
  have k0 := h0
  have lt0 : ∀ x ∈ p0, x.block < W.heap.size := by obtain ⟨m, hm⟩ := k0; exact DataW.trod_lt m _ _ _ hm
  have w0 : ArgB W a0 len0 cap0 := by
    obtain ⟨fuel, hf⟩ := h0
    rcases open_ints Try.underlying22 Try.underlying5 (by kernel_rfl) hf with ⟨hcs, _⟩ | ⟨x, l, c, zs, hcs, _, hl, hm, hz, _, hcell, hwz⟩
    · simp [Value.cells] at hcs
      obtain ⟨rfl, rfl, rfl⟩ := hcs
      exact ⟨Nat.le_refl _, Nat.zero_le _, fun h => absurd rfl h⟩
    · simp [Value.cells] at hcs
      obtain ⟨rfl, rfl, rfl⟩ := hcs
      exact argB_of W _ _ _ zs hl hm (by simpa using hz) hcell hwz
  clear hA0 hval0
  refine (walk_FnTable a0 len0 cap0 W w0).mono fun e W' ⟨he, bel⟩ => ?_
  subst he
  exact ⟨_, rfl, _, _, _, [], _, [], hW', trodAll_mk1 (shut_bool Try.underlying4 _), (trodAll_cons_mk (Below.trod laidOut (by kernel_rfl) (of_decide_eq_true (by kernel_rfl)) k0 bel lt0) trodAll_mk0), rfl, bel.frame _, fun h => by cases h⟩

theorem over : Rows.fnTableRow.holds Try.pinned (OpenSpec.ofChange Rows.fnTableSpec) :=
  OpenClaim.holds_of_wide 3 Try.f3 rfl rfl rfl rfl rfl rfl rfl ⟨rfl, rfl, rfl, rfl, rfl⟩ rfl rfl rfl rfl rfl (by kernel_rfl) Try.func3 (by kernel_rfl)
    (of_decide_eq_true (by kernel_rfl)) (by unfold Func.isWrapper; first | (rw [if_pos (by decide +kernel)]; kernel_rfl) | (rw [if_neg (by decide +kernel)]; exact ⟨rfl, rfl⟩))
    (fun os started H enc _ => lifted os started H enc)
end fnTable

theorem fnTable_holds : Rows.FnTableSaid := fnTable.over
#print axioms fnTable_holds
end Go.Proofs.Ytjpkpdihldcdaaa
