/-
  'laws.FnSensitivity' returns true for every input, and each argument reads behind the call as it read before. No conditions.
-/
import Derived.Test.YtjpkpdihldcdaaaRows
import Derived.Test.YtjpkpdihldcdaaaWx
import Derived.WalkKit
import Derived.ProofKit
import Derived.OpenShut
import Derived.ShutString
import Derived.ChangeOld
import Derived.Below
import Derived.SliceStrings
namespace Go.Proofs.Ytjpkpdihldcdaaa
set_option linter.unusedVariables false
set_option linter.unusedSimpArgs false
namespace fnSensitivity
open Go.ChangeShapes Go.WideShapes Go.ChangeAt Go.RowKit
open Go.ChangeMaps (open_string shut_string)
open Go.RowKit
set_option linter.unusedVariables false

theorem un_le (n : Nat) (g : Nat → Nat) (h5 : n ≤ 5) (i : Nat) : unT n g i ≤ 16 := by
  have h1 := sumN_le (dfB g i) 1 (2 ^ n) (dfB_le g i)
  have h2 := pow_le32 n h5
  unfold unT
  omega

theorem no_facts (F : ByteArray) (hF : F.size ≤ 100) (w0 : World) (hb : isTab F.data.toList = false) :
    Hid (Co w0 31 #[.string F] (.int .i64 (-1))) ∧ Hid (Co w0 32 #[.string F] (.int .i64 (-1))) ∧ Hid (Co w0 15 #[.string F] (.bool false)) := by
  have f1 : F.size ≤ maxLen := by unfold maxLen; omega
  have e : sensL F.data.toList = -1 := by unfold sensL; rw [hb]; rfl
  exact ⟨(co w0 fun w => sensitivityOfI F w f1).as (by rw [e]), (co0 w0 fun w => sensitivityOfS F w f1).as (by rw [e]), (co w0 fun w => tableValidI F w f1).as (by rw [hb])⟩

theorem yes_facts (F : ByteArray) (w0 : World) (hb : isTab F.data.toList = true) : ∃ (n S : Nat) (g : Nat → Nat) (G D Z O : ByteArray), 1 ≤ n ∧ n ≤ 5 ∧ Hid (∀ s, g s ≤ 1) ∧ Hid (F.size = 2 ^ n) ∧
    Hid (Co w0 31 #[.string F] (.int .i64 (S : Int))) ∧ Hid (Co w0 32 #[.string F] (.int .i64 (S : Int))) ∧
    Hid (Co w0 21 #[.string F] (.tuple #[.string G, .bool true])) ∧ Hid (Co w0 28 #[.string F] (.tuple #[.string D, .bool true])) ∧
    Hid (Co w0 16 #[.string F] (.int .i64 (n : Int))) ∧
    Hid (Co w0 34 #[.int .i64 (n : Int), .int .i64 0] (.tuple #[.string Z, .bool true])) ∧ Hid (Co w0 34 #[.int .i64 (n : Int), .int .i64 1] (.tuple #[.string O, .bool true])) ∧
    Hid (Co w0 31 #[.string G] (.int .i64 (S : Int))) ∧ Hid (Co w0 31 #[.string D] (.int .i64 (S : Int))) ∧
    Hid (∀ i, i < n → ∃ A B : ByteArray, Co w0 33 #[.string F, .int .i64 (i : Int), .int .i64 0] (.tuple #[.string A, .bool true]) ∧ Co w0 33 #[.string F, .int .i64 (i : Int), .int .i64 1] (.tuple #[.string B, .bool true]) ∧
      ∀ s : Nat, s < 2 ^ n → Co w0 17 #[.string A, .int .i64 (s : Int)] (.int .i64 ((g (holdN s i 0) : Nat) : Int)) ∧ Co w0 17 #[.string B, .int .i64 (s : Int)] (.int .i64 ((g (holdN s i 1) : Nat) : Int))) ∧
    Hid (S = sumN (unT n g) n) ∧ Hid (S = 0 ↔ (F = Z ∨ F = O)) ∧ Z ≠ O := by
  obtain ⟨n, g, h1, h5, hg, rfl⟩ := tab_T F hb
  have hd : ∀ s, 1 - g (2 ^ n - 1 - s) ≤ 1 := fun s => Nat.sub_le _ _
  have hn : ∀ s, 1 - g s ≤ 1 := fun s => Nat.sub_le _ _
  have hp := Nat.two_pow_pos n
  refine ⟨n, snT g n (2 ^ n), g, T n fun s => 1 - g s, T n fun s => 1 - g (2 ^ n - 1 - s), T n fun _ => 0, T n fun _ => 1, h1, h5, hg, T_size n g, tSensI w0 h1 h5 hg, tSensS w0 h1 h5 hg, tNotI w0 h1 h5 hg, tDualI w0 h1 h5 hg, tInputsI w0 h1 h5 hg, tConstI w0 h1 h5 0 (by omega), tConstI w0 h1 h5 1 (by omega),
    (tSensI w0 h1 h5 hn).as (int_eq (by rw [sn_not h5 hg])), (tSensI w0 h1 h5 hd).as (int_eq (by rw [sn_dual h5 hg])), ?_, sn_un h5, sn_zero h5 hg, ?_⟩
  · intro i hi
    exact ⟨_, _, tHoldI w0 h1 h5 hg i 0 hi (by omega), tHoldI w0 h1 h5 hg i 1 hi (by omega), fun s hs => ⟨tValueI (g := fun s => g (holdN s i 0)) w0 h1 h5 (fun s => hg _) s hs, tValueI (g := fun s => g (holdN s i 1)) w0 h1 h5 (fun s => hg _) s hs⟩⟩
  · intro e
    have := T_inj n (fun _ => 0) (fun _ => 1) (fun _ => by omega) (fun _ => by omega) e 0 hp
    cases this

set_option maxRecDepth 100000 in
set_option maxHeartbeats 1000000 in
theorem walk_FnSensitivity (A : Option Addr) (n c : Nat) (w : World) (h : ArgB w A n c) :
    Calls Try.prog 5 #[.slice A n c] w fun e w' => e = .returned (.bool true) ∧ Below w.heap.size w w' := by
  have hnm := Nat.le_trans h.1 h.2.1
  unfold maxLen at hnm
  by_cases hbig : 1048576 < n
  · go_enter Try.func5, Try.ntmps5
    go_wp2_with fail
    go_ret
    exact ⟨rfl, Below.refl _ _⟩
  go_enter Try.func5, Try.ntmps5
  go_wp2_with fail
  refine (drawSensitivityOfS A n c w h).mono ?_
  rintro e w1 ⟨F, hF, rfl, hB⟩
  clear h
  cases hb : isTab F.data.toList
  · obtain ⟨c1, c2, c3⟩ := no_facts F hF w hb
    clear hb
    go_wp2_with (first | (go_at_call 31; (with_reducible refine ((c1).out.at hB).mono ?_); rintro e w1 ⟨rfl, hB⟩) | (go_at_call 32; (with_reducible refine ((c2).out.at hB).mono ?_); rintro e w1 ⟨rfl, hB⟩) | (go_at_call 15; (with_reducible refine ((c3).out.at hB).mono ?_); rintro e w1 ⟨rfl, hB⟩) | fail)
    go_ret
    exact ⟨rfl, hB⟩
  · obtain ⟨N, S, g, G, D, Z, O, h1, h5, HG, hsz, c1, c2, c3, c4, c5, c6, c7, c8, c9, c10, hS, hSZ, hZO⟩ := yes_facts F w hb
    have h32 := pow_le32 N h5
    have HUN := Lib.hid (un_le N g h5)
    obtain ⟨m, hm⟩ : ∃ m, m = F.size := ⟨_, rfl⟩
    have HM := Lib.hid (hm.trans hsz.out)
    rw [← HM.out] at h32 c10
    have hmF : F.size ≤ 32 := by omega
    have HMF := Lib.hid hm
    clear hb hm hsz
    go_wp2_with (first | (go_at_call 31; (with_reducible refine ((c1).out.at hB).mono ?_); rintro e w1 ⟨rfl, hB⟩) | (go_at_call 32; (with_reducible refine ((c2).out.at hB).mono ?_); rintro e w1 ⟨rfl, hB⟩) | (go_at_call 21; (with_reducible refine ((c3).out.at hB).mono ?_); rintro e w1 ⟨rfl, hB⟩) | (go_at_call 28; (with_reducible refine ((c4).out.at hB).mono ?_); rintro e w1 ⟨rfl, hB⟩) | fail)
    go_loopw [9, 10] (fun c j wr => ∃ k : Nat, k ≤ N ∧ j = .int .i64 k ∧ c = .int .i64 ((sumN (unT N g) k : Nat) : Int) ∧ Below w.heap.size w wr) (fun _ j _ => N - (intOf j).toNat)
    case atStart => exact ⟨0, Nat.zero_le _, rfl, rfl, hB⟩
    case round =>
      clear hB
      obtain ⟨k, hk, rfl, rfl, hB⟩ := hrel
      have hTk := sumN_le (unT N g) 16 k HUN.out
      by_cases hlt : k < N
      · obtain ⟨A1, B1, d1, d2, d3⟩ := c10.out k hlt
        have D1 := Lib.hid d1
        have D2 := Lib.hid d2
        have D3 := Lib.hid d3
        have HK := Lib.hid (show sumN (unT N g) (k + 1) = sumN (unT N g) k + sumN (dfB g k) m / 2 by rw [HM.out]; rfl)
        clear d1 d2 d3
        generalize sumN (unT N g) k = T0 at *
        go_wp2_with (first | (go_at_call 16; (with_reducible refine ((c5).out.at hB).mono ?_); rintro e w1 ⟨rfl, hB⟩) | (go_at_call 33; (with_reducible refine ((D1).out.at hB).mono ?_); rintro e w1 ⟨rfl, hB⟩) | (go_at_call 33; (with_reducible refine ((D2).out.at hB).mono ?_); rintro e w1 ⟨rfl, hB⟩) | fail)
        go_loopw [15, 16] (fun c j wr => ∃ s : Nat, s ≤ F.size ∧ j = .int .i64 s ∧ c = .int .i64 ((sumN (dfB g k) s : Nat) : Int) ∧ Below w.heap.size w wr) (fun _ j _ => F.size - (intOf j).toNat)
        case atStart => exact ⟨0, Nat.zero_le _, rfl, rfl, hB⟩
        case round =>
          clear hB
          obtain ⟨s, hs, rfl, rfl, hB⟩ := hrel
          have hTs := sumN_le (dfB g k) 1 s (dfB_le g k)
          by_cases hlts : s < F.size
          · obtain ⟨d4, d5⟩ := D3.out s (by rw [HMF.out]; exact hlts)
            have D4 := Lib.hid d4
            have D5 := Lib.hid d5
            have HR := Lib.hid (show sumN (dfB g k) (s + 1) = sumN (dfB g k) s + if g (holdN s k 0) ≠ g (holdN s k 1) then 1 else 0 from rfl)
            have hp1 := HG.out (holdN s k 0)
            have hq1 := HG.out (holdN s k 1)
            clear d4 d5
            generalize g (holdN s k 0) = p at *
            generalize g (holdN s k 1) = q at *
            generalize sumN (dfB g k) s = U at *
            obtain rfl | rfl : p = 0 ∨ p = 1 := by omega
            all_goals
              obtain rfl | rfl : q = 0 ∨ q = 1 := by omega
              all_goals
                go_wp2_with (first | (go_at_call 17; (with_reducible refine ((D4).out.at hB).mono ?_); rintro e w1 ⟨rfl, hB⟩) | (go_at_call 17; (with_reducible refine ((D5).out.at hB).mono ?_); rintro e w1 ⟨rfl, hB⟩) | fail)
                go_roundw
                case rel => exact ⟨s + 1, by omega, by go_num, by rw [HR.out]; first | rfl | go_num, hB⟩
                case measure => simp [intOf]; omega
          · obtain rfl : s = F.size := by omega
            rw [HMF.out] at HK
            generalize sumN (dfB g k) F.size = U at *
            go_wp2_with fail
            go_roundw
            case rel => exact ⟨k + 1, by omega, by go_num, by rw [HK.out]; go_num, hB⟩
            case measure => simp [intOf]; omega
      · obtain rfl : k = N := by omega
        rw [← hS.out]
        by_cases hz : S = 0
        · subst hz
          rcases hSZ.out.1 rfl with rfl | rfl
          · have z1 := str_ne hZO
            clear hSZ hS hTk hZO
            go_wp2_with (first | (go_at_call 16; (with_reducible refine ((c5).out.at hB).mono ?_); rintro e w1 ⟨rfl, hB⟩) | (go_at_call 34; (with_reducible refine ((c6).out.at hB).mono ?_); rintro e w1 ⟨rfl, hB⟩) | (go_at_call 34; (with_reducible refine ((c7).out.at hB).mono ?_); rintro e w1 ⟨rfl, hB⟩) | (go_at_call 31; (with_reducible refine ((c8).out.at hB).mono ?_); rintro e w1 ⟨rfl, hB⟩) | (go_at_call 31; (with_reducible refine ((c9).out.at hB).mono ?_); rintro e w1 ⟨rfl, hB⟩) | fail)
            go_ret
            exact ⟨rfl, hB⟩
          · have z1 := str_ne hZO.symm
            clear hSZ hS hTk hZO
            go_wp2_with (first | (go_at_call 16; (with_reducible refine ((c5).out.at hB).mono ?_); rintro e w1 ⟨rfl, hB⟩) | (go_at_call 34; (with_reducible refine ((c6).out.at hB).mono ?_); rintro e w1 ⟨rfl, hB⟩) | (go_at_call 34; (with_reducible refine ((c7).out.at hB).mono ?_); rintro e w1 ⟨rfl, hB⟩) | (go_at_call 31; (with_reducible refine ((c8).out.at hB).mono ?_); rintro e w1 ⟨rfl, hB⟩) | (go_at_call 31; (with_reducible refine ((c9).out.at hB).mono ?_); rintro e w1 ⟨rfl, hB⟩) | fail)
            go_ret
            exact ⟨rfl, hB⟩
        · have z1 : (F.toList == Z.toList) = false := str_ne fun e => hz (hSZ.out.2 (.inl e))
          have z2 : (F.toList == O.toList) = false := str_ne fun e => hz (hSZ.out.2 (.inr e))
          have z3 : ((S : Int) == 0) = false := by simp; omega
          clear hSZ hS hTk hZO
          go_wp2_with (first | (go_at_call 16; (with_reducible refine ((c5).out.at hB).mono ?_); rintro e w1 ⟨rfl, hB⟩) | (go_at_call 34; (with_reducible refine ((c6).out.at hB).mono ?_); rintro e w1 ⟨rfl, hB⟩) | (go_at_call 34; (with_reducible refine ((c7).out.at hB).mono ?_); rintro e w1 ⟨rfl, hB⟩) | (go_at_call 31; (with_reducible refine ((c8).out.at hB).mono ?_); rintro e w1 ⟨rfl, hB⟩) | (go_at_call 31; (with_reducible refine ((c9).out.at hB).mono ?_); rintro e w1 ⟨rfl, hB⟩) | fail)
          go_ret
          exact ⟨rfl, hB⟩

theorem own : ownKnob Try.prog.godebug = none := by kernel_rfl
theorem laidOut : laidOutB Try.prog = true := by kernel_rfl

set_option maxRecDepth 100000 in
theorem lifted (os : Os) (started : os.Started) (H : Type) (enc : TypeId × Value → H) :
    ReturnsInHanded {} Try.checked os 5 .any (Rows.fnSensitivitySpec.pre6 enc Try.prog Try.f5 Rows.fnSensitivityRow.domain false) (Rows.fnSensitivitySpec.post enc Try.prog Try.f5 false true false false) := by
  refine returnsInHanded_of_change (C := Try.checked) own started (by kernel_rfl) Try.func5
    (ChangeSpec.witness6 (enc := enc) (C := Try.checked) false ⟨#[], #[.slice none 0 0], []⟩ 8 (by kernel_rfl) (by kernel_rfl) (by kernel_rfl) (by kernel_rfl)) ?_
  intro W base args ds gs before hval0 hW hcnd _
  have hval : ∀ (j : Nat) t v, Try.f5.params[j]? = some t → args[j]? = some v → Value.okWide Try.prog W .any base t v := hval0
  have hW' := hW
  obtain ⟨p, q, hA0, hV, rfl, hfz, hnd⟩ := hW
  have hA : DataW.TrodAll enc Try.prog W 0 (fun _ => true) true Try.f5.params.toList args.toList ds p := hA0
  rw [Try.params5] at hA hval
  obtain ⟨v0, vs0, d0, ds0, p0, q0, hargs, rfl, rfl, h0, r0⟩ := trodAll_cons hA
  obtain ⟨rfl, rfl, rfl⟩ := trodAll_nil r0
  obtain rfl : args = #[v0] := by cases args; simp_all
  obtain ⟨rfl, rfl⟩ := trodVars_none hV
  obtain ⟨a0, len0, cap0, rfl⟩ := okWide_slice Try.underlying22 (hval 0 22 v0 rfl rfl)
  have k0 := h0
  have lt0 : ∀ x ∈ p0, x.block < W.heap.size := by obtain ⟨m, hm⟩ := k0; exact DataW.trod_lt m _ _ _ hm
  have w0 : ArgB W a0 len0 cap0 := by
    obtain ⟨fuel, hf⟩ := h0
    rcases open_ints Try.underlying22 Try.underlying5 (by kernel_rfl) hf with ⟨hcs, _⟩ | ⟨x, l, c, zs, hcs, _, hl, hm, hz, _, hcell, hwz⟩
    · simp [Value.cells] at hcs
      obtain ⟨rfl, rfl, rfl⟩ := hcs
      exact ⟨Nat.le_refl _, Nat.zero_le _, fun h => absurd rfl h⟩
    · simp [Value.cells] at hcs
      obtain ⟨rfl, rfl, rfl⟩ := hcs
      exact argB_of W _ _ _ zs hl hm (by simpa using hz) hcell hwz
  clear hA0 hval0
  refine (walk_FnSensitivity a0 len0 cap0 W w0).mono fun e W' ⟨he, bel⟩ => ?_
  subst he
  exact ⟨_, rfl, _, _, _, [], _, [], hW', trodAll_mk1 (shut_bool Try.underlying4 _), (trodAll_cons_mk (Below.trod laidOut (by kernel_rfl) (of_decide_eq_true (by kernel_rfl)) k0 bel lt0) trodAll_mk0), rfl, bel.frame _, fun h => by cases h⟩

theorem over : Rows.fnSensitivityRow.holds Try.pinned (OpenSpec.ofChange Rows.fnSensitivitySpec) :=
  OpenClaim.holds_of_wide 5 Try.f5 rfl rfl rfl rfl rfl rfl rfl ⟨rfl, rfl, rfl, rfl, rfl⟩ rfl rfl rfl rfl rfl (by kernel_rfl) Try.func5 (by kernel_rfl)
    (of_decide_eq_true (by kernel_rfl)) (by unfold Func.isWrapper; first | (rw [if_pos (by decide +kernel)]; kernel_rfl) | (rw [if_neg (by decide +kernel)]; exact ⟨rfl, rfl⟩))
    (fun os started H enc _ => lifted os started H enc)
end fnSensitivity

theorem fnSensitivity_holds : Rows.FnSensitivitySaid := fnSensitivity.over
#print axioms fnSensitivity_holds
end Go.Proofs.Ytjpkpdihldcdaaa
