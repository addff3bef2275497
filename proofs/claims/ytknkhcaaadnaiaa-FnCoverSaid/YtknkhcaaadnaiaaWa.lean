/- Walks: the small functions on texts. -/
import Derived.Test.YtknkhcaaadnaiaaWl
import Derived.Test.YtknkhcaaadnaiaaChecked
import Derived.WalkKit
import Derived.WalkLawsBesides
import Derived.WalkSpells
import Derived.Below
import Derived.Lib.Hide
import Derived.IntWalk
import Derived.Deep.Light
import Derived.Outline
namespace Go.Proofs.Ytknkhcaaadnaiaa
set_option linter.unusedVariables false
set_option linter.unusedSimpArgs false
open Go.RowKit


theorem termValidI (t : ByteArray) (n : Int) (w : World) (hs : t.size ≤ maxLen) :
    Calls Try.prog 10 #[.string t, .int .i64 n] w fun e w' => e = .returned (.bool (isTerm t.data.toList n)) ∧ w = w' := by
  unfold maxLen at hs
  by_cases hr : n < 1 ∨ 5 < n ∨ (t.data.toList.length : Int) ≠ n
  · have H := Lib.hid (isTerm_range _ _ hr)
    have hl : t.data.toList.length = t.size := rfl
    rw [hl] at hr
    rcases Decidable.em (n < 1) with h1 | h1
    · go_enter Try.func10, Try.ntmps10
      go_wp2
      go_ret
      exact ⟨ret_bool H.out.symm, rfl⟩
    rcases Decidable.em (5 < n) with h2 | h2
    · go_enter Try.func10, Try.ntmps10
      go_wp2
      go_ret
      exact ⟨ret_bool H.out.symm, rfl⟩
    have h3 : ((t.size : Int) != n) = true := by rw [bne_iff_ne]; omega
    go_enter Try.func10, Try.ntmps10
    go_wp2
    go_ret
    exact ⟨ret_bool H.out.symm, rfl⟩
  · have h1 : 1 ≤ n := by omega
    have h2 : n ≤ 5 := by omega
    have h3 : (t.data.toList.length : Int) = n := by omega
    have H := Lib.hid (isTerm_all _ _ h1 h2 h3)
    have hl : t.data.toList.length = t.size := rfl
    rw [hl] at h3
    have hne : ((t.size : Int) != n) = false := by rw [h3]; simp
    subst h3
    clear hr hl
    go_enter Try.func10, Try.ntmps10
    go_wp2
    go_loop [19] (fun i => ∃ k : Nat, k ≤ t.size ∧ i = .int .i64 k ∧ Hid ((t.data.toList.take k).all tb = true)) (fun i => t.size - (intOf i).toNat)
    case atStart => exact ⟨0, Nat.zero_le _, rfl, rfl⟩
    case round =>
      obtain ⟨k, hk, rfl, ha⟩ := hrel
      by_cases hlt : k < t.size
      · go_wp2
        all_goals first
          | (go_ret
             have hb : tb t[k] = false := by go_light; rw [Bool.eq_false_iff, ne_eq, tb_iff]; simp_all
             exact ⟨ret_bool (by rw [H.out]; exact (all_false_at _ _ _ hlt hb).symm), rfl⟩)
          | (go_round
             case rel =>
               have hb : tb t[k] = true := by go_light; rw [tb_iff]; simp_all
               exact ⟨k + 1, by omega, by go_num, all_take_succ _ _ _ hlt ha.out hb⟩
             case measure => simp [intOf]; omega)
      · go_wp2
        go_ret
        exact ⟨ret_bool (by rw [H.out]; exact (all_true_take _ _ _ ha.out (by show t.size ≤ k; omega)).symm), rfl⟩

theorem l1In (n lo hi : Int) (w : World) :
    Calls Try.prog 55 #[.int .i64 n, .int .i64 lo, .int .i64 hi] w fun e w' => e = .returned (.bool (decide (lo ≤ n) && decide (n ≤ hi))) ∧ w = w' := by
  by_cases h1 : lo ≤ n <;> by_cases h2 : n ≤ hi
  all_goals
    go_enter Try.func55, Try.ntmps55
    go_wp2
    go_ret
    exact ⟨ret_bool (by simp [h1, h2]), rfl⟩

theorem l14Find (s : ByteArray) (c : Int) (cc : UInt8) (hc : c = cc.toNat) (w : World) (hs : s.size ≤ maxLen) :
    Calls Try.prog 54 #[.string s, .int .u8 c] w fun e w' => e = .returned (.int .i64 (findB s.data.toList cc)) ∧ w = w' := by
  unfold maxLen at hs
  subst hc
  go_enter Try.func54, Try.ntmps54
  go_wp2
  go_loop [5] (fun i => ∃ k : Nat, k ≤ s.size ∧ i = .int .i64 k ∧ Hid (∀ x ∈ s.data.toList.take k, x ≠ cc)) (fun i => s.size - (intOf i).toNat)
  case atStart => exact ⟨0, Nat.zero_le _, rfl, by simp [Hid]⟩
  case round =>
    obtain ⟨k, hk, rfl, ha⟩ := hrel
    by_cases hlt : k < s.size
    · cases hb : ((s[k].toNat : Int) == (cc.toNat : Int))
      · have hb' : s[k] ≠ cc := by rintro rfl; simp at hb
        have hb' := Lib.hid hb'
        go_wp2
        go_round
        case rel => exact ⟨k + 1, by omega, by go_num, notin_succ _ _ _ hlt ha.out hb'.out⟩
        case measure => simp [intOf]; omega
      · have hb' := Lib.hid (UInt8.toNat_inj.1 (Int.ofNat.inj (eq_of_beq hb)))
        go_wp2
        go_ret
        exact ⟨ret_int (findB_at _ _ _ hlt hb'.out ha.out).symm, rfl⟩
    · go_wp2
      go_ret
      exact ⟨ret_int (findB_no _ _ (by have := ha.out; rwa [List.take_of_length_le (by show s.size ≤ k; omega)] at this)).symm, rfl⟩

theorem termValidS (t : ByteArray) (n : Int) (w : World) (hs : t.size ≤ maxLen) :
    Calls Try.prog 31 #[.string t, .int .i64 n] w fun e w' => e = .returned (.bool (isTerm t.data.toList n)) ∧ w = w' := by
  have hs' := hs
  unfold maxLen at hs'
  go_enter Try.func31, Try.ntmps31
  go_wp2
  go_loop [5] (fun i => ∃ k : Nat, k ≤ t.size ∧ i = .int .i64 k ∧ Hid ((t.data.toList.take k).all tb = true)) (fun i => t.size - (intOf i).toNat)
  case atStart => exact ⟨0, Nat.zero_le _, rfl, rfl⟩
  case round =>
    obtain ⟨k, hk, rfl, ha⟩ := hrel
    by_cases hlt : k < t.size
    · cases hb : tb t[k]
      · have h0 : findB [42, 48, 49] t[k] < 0 := by have := tb_find t[k]; rw [hb] at this; simpa using this
        have hb' := Lib.hid hb
        clear hb
        go_wp2_with (go_at_call 54; refine (l14Find _ _ t[k] rfl _ (by decide)).mono ?_; rintro e w' ⟨rfl, rfl⟩)
        go_ret
        exact ⟨ret_bool (by have := all_false_at _ _ _ hlt hb'.out; unfold isTerm; rw [this]; simp), rfl⟩
      · have h0 : ¬ findB [42, 48, 49] t[k] < 0 := by have := tb_find t[k]; rw [hb] at this; simpa using this
        have hb' := Lib.hid hb
        clear hb
        go_wp2_with (go_at_call 54; refine (l14Find _ _ t[k] rfl _ (by decide)).mono ?_; rintro e w' ⟨rfl, rfl⟩)
        go_round
        case rel => exact ⟨k + 1, by omega, by go_num, all_take_succ _ _ _ hlt ha.out hb'.out⟩
        case measure => simp [intOf]; omega
    · have hall := Lib.hid (all_true_take _ _ _ ha.out (by show t.size ≤ k; omega))
      by_cases hr : 1 ≤ n ∧ n ≤ 5
      · have hr' := Lib.hid hr
        obtain ⟨h1, h2⟩ := hr
        have he : (decide (1 ≤ n) && decide (n ≤ 5)) = true := by simp [h1, h2]
        go_wp2_with (go_at_call 55; refine (l1In _ _ _ _).mono ?_; rw [he]; rintro e w' ⟨rfl, rfl⟩)
        go_ret
        exact ⟨ret_bool (by unfold isTerm; rw [hall.out]; simp [h1, h2]; rw [Bool.eq_iff_iff]; simp), rfl⟩
      · have hr' := Lib.hid hr
        have he : (decide (1 ≤ n) && decide (n ≤ 5)) = false := by simp; omega
        clear hr
        go_wp2_with (go_at_call 55; refine (l1In _ _ _ _).mono ?_; rw [he]; rintro e w' ⟨rfl, rfl⟩)
        go_ret
        exact ⟨ret_bool (by unfold isTerm; rw [he]; simp), rfl⟩

end Go.Proofs.Ytknkhcaaadnaiaa
