/- Walks: the small functions on texts. -/
import Derived.Test.YtjpkpdihldcdaaaWl
import Derived.Test.YtjpkpdihldcdaaaChecked
import Derived.WalkKit
import Derived.WalkLawsBesides
import Derived.WalkSpells
import Derived.Below
import Derived.Lib.Hide
import Derived.IntWalk
import Derived.Deep.Light
import Derived.Outline
namespace Go.Proofs.Ytjpkpdihldcdaaa
set_option linter.unusedVariables false
set_option linter.unusedSimpArgs false
open Go.RowKit


theorem termValidI (t : ByteArray) (n : Int) (w : World) (hs : t.size ≤ maxLen) :
    Calls Try.prog 44 #[.string t, .int .i64 n] w fun e w' => e = .returned (.bool (isTerm t.data.toList n)) ∧ w = w' := by
  unfold maxLen at hs
  by_cases hr : n < 1 ∨ 5 < n ∨ (t.data.toList.length : Int) ≠ n
  · have H := Lib.hid (isTerm_range _ _ hr)
    have hl : t.data.toList.length = t.size := rfl
    rw [hl] at hr
    rcases Decidable.em (n < 1) with h1 | h1
    · go_enter Try.func44, Try.ntmps44
      go_wp2
      go_ret
      exact ⟨ret_bool H.out.symm, rfl⟩
    rcases Decidable.em (5 < n) with h2 | h2
    · go_enter Try.func44, Try.ntmps44
      go_wp2
      go_ret
      exact ⟨ret_bool H.out.symm, rfl⟩
    have h3 : ((t.size : Int) != n) = true := by rw [bne_iff_ne]; omega
    go_enter Try.func44, Try.ntmps44
    go_wp2
    go_ret
    exact ⟨ret_bool H.out.symm, rfl⟩
  · have h1 : 1 ≤ n := by omega
    have h2 : n ≤ 5 := by omega
    have h3 : (t.data.toList.length : Int) = n := by omega
    have H := Lib.hid (isTerm_all _ _ h1 h2 h3)
    have hl : t.data.toList.length = t.size := rfl
    rw [hl] at h3
    have hne : ((t.size : Int) != n) = false := by rw [h3]; simp
    subst h3
    clear hr hl
    go_enter Try.func44, Try.ntmps44
    go_wp2
    go_loop [19] (fun i => ∃ k : Nat, k ≤ t.size ∧ i = .int .i64 k ∧ Hid ((t.data.toList.take k).all tb = true)) (fun i => t.size - (intOf i).toNat)
    case atStart => exact ⟨0, Nat.zero_le _, rfl, rfl⟩
    case round =>
      obtain ⟨k, hk, rfl, ha⟩ := hrel
      by_cases hlt : k < t.size
      · go_wp2
        all_goals first
          | (go_ret
             have hb : tb t[k] = false := by go_light; rw [Bool.eq_false_iff, ne_eq, tb_iff]; simp_all
             exact ⟨ret_bool (by rw [H.out]; exact (all_false_at _ _ _ hlt hb).symm), rfl⟩)
          | (go_round
             case rel =>
               have hb : tb t[k] = true := by go_light; rw [tb_iff]; simp_all
               exact ⟨k + 1, by omega, by go_num, all_take_succ _ _ _ hlt ha.out hb⟩
             case measure => simp [intOf]; omega)
      · go_wp2
        go_ret
        exact ⟨ret_bool (by rw [H.out]; exact (all_true_take _ _ _ ha.out (by show t.size ≤ k; omega)).symm), rfl⟩

theorem l1In (n lo hi : Int) (w : World) :
    Calls Try.prog 85 #[.int .i64 n, .int .i64 lo, .int .i64 hi] w fun e w' => e = .returned (.bool (decide (lo ≤ n) && decide (n ≤ hi))) ∧ w = w' := by
  by_cases h1 : lo ≤ n <;> by_cases h2 : n ≤ hi
  all_goals
    go_enter Try.func85, Try.ntmps85
    go_wp2
    go_ret
    exact ⟨ret_bool (by simp [h1, h2]), rfl⟩

theorem l14Find (s : ByteArray) (c : Int) (cc : UInt8) (hc : c = cc.toNat) (w : World) (hs : s.size ≤ maxLen) :
    Calls Try.prog 113 #[.string s, .int .u8 c] w fun e w' => e = .returned (.int .i64 (findB s.data.toList cc)) ∧ w = w' := by
  unfold maxLen at hs
  subst hc
  go_enter Try.func113, Try.ntmps113
  go_wp2
  go_loop [5] (fun i => ∃ k : Nat, k ≤ s.size ∧ i = .int .i64 k ∧ Hid (∀ x ∈ s.data.toList.take k, x ≠ cc)) (fun i => s.size - (intOf i).toNat)
  case atStart => exact ⟨0, Nat.zero_le _, rfl, by simp [Hid]⟩
  case round =>
    obtain ⟨k, hk, rfl, ha⟩ := hrel
    by_cases hlt : k < s.size
    · cases hb : ((s[k].toNat : Int) == (cc.toNat : Int))
      · have hb' : s[k] ≠ cc := by rintro rfl; simp at hb
        have hb' := Lib.hid hb'
        go_wp2
        go_round
        case rel => exact ⟨k + 1, by omega, by go_num, notin_succ _ _ _ hlt ha.out hb'.out⟩
        case measure => simp [intOf]; omega
      · have hb' := Lib.hid (UInt8.toNat_inj.1 (Int.ofNat.inj (eq_of_beq hb)))
        go_wp2
        go_ret
        exact ⟨ret_int (findB_at _ _ _ hlt hb'.out ha.out).symm, rfl⟩
    · go_wp2
      go_ret
      exact ⟨ret_int (findB_no _ _ (by have := ha.out; rwa [List.take_of_length_le (by show s.size ≤ k; omega)] at this)).symm, rfl⟩

theorem termValidS (t : ByteArray) (n : Int) (w : World) (hs : t.size ≤ maxLen) :
    Calls Try.prog 45 #[.string t, .int .i64 n] w fun e w' => e = .returned (.bool (isTerm t.data.toList n)) ∧ w = w' := by
  have hs' := hs
  unfold maxLen at hs'
  go_enter Try.func45, Try.ntmps45
  go_wp2
  go_loop [5] (fun i => ∃ k : Nat, k ≤ t.size ∧ i = .int .i64 k ∧ Hid ((t.data.toList.take k).all tb = true)) (fun i => t.size - (intOf i).toNat)
  case atStart => exact ⟨0, Nat.zero_le _, rfl, rfl⟩
  case round =>
    obtain ⟨k, hk, rfl, ha⟩ := hrel
    by_cases hlt : k < t.size
    · cases hb : tb t[k]
      · have h0 : findB [42, 48, 49] t[k] < 0 := by have := tb_find t[k]; rw [hb] at this; simpa using this
        have hb' := Lib.hid hb
        clear hb
        go_wp2_with (go_at_call 113; refine (l14Find _ _ t[k] rfl _ (by decide)).mono ?_; rintro e w' ⟨rfl, rfl⟩)
        go_ret
        exact ⟨ret_bool (by have := all_false_at _ _ _ hlt hb'.out; unfold isTerm; rw [this]; simp), rfl⟩
      · have h0 : ¬ findB [42, 48, 49] t[k] < 0 := by have := tb_find t[k]; rw [hb] at this; simpa using this
        have hb' := Lib.hid hb
        clear hb
        go_wp2_with (go_at_call 113; refine (l14Find _ _ t[k] rfl _ (by decide)).mono ?_; rintro e w' ⟨rfl, rfl⟩)
        go_round
        case rel => exact ⟨k + 1, by omega, by go_num, all_take_succ _ _ _ hlt ha.out hb'.out⟩
        case measure => simp [intOf]; omega
    · have hall := Lib.hid (all_true_take _ _ _ ha.out (by show t.size ≤ k; omega))
      by_cases hr : 1 ≤ n ∧ n ≤ 5
      · have hr' := Lib.hid hr
        obtain ⟨h1, h2⟩ := hr
        have he : (decide (1 ≤ n) && decide (n ≤ 5)) = true := by simp [h1, h2]
        go_wp2_with (go_at_call 85; refine (l1In _ _ _ _).mono ?_; rw [he]; rintro e w' ⟨rfl, rfl⟩)
        go_ret
        exact ⟨ret_bool (by unfold isTerm; rw [hall.out]; simp [h1, h2]; rw [Bool.eq_iff_iff]; simp), rfl⟩
      · have hr' := Lib.hid hr
        have he : (decide (1 ≤ n) && decide (n ≤ 5)) = false := by simp; omega
        clear hr
        go_wp2_with (go_at_call 85; refine (l1In _ _ _ _).mono ?_; rw [he]; rintro e w' ⟨rfl, rfl⟩)
        go_ret
        exact ⟨ret_bool (by unfold isTerm; rw [he]; simp), rfl⟩

theorem parseStateS (t : ByteArray) (w : World) (hs : t.size ≤ maxLen) :
    Calls Try.prog 65 #[.string t] w fun e w' => e = .returned (psV t.data.toList) ∧ w = w' := by
  have hs' := hs
  unfold maxLen at hs'
  have hz := Lib.hid (isState_of t.data.toList)
  cases ht : isTerm t.data.toList t.size
  · have H : isState t.data.toList = false := by rw [hz.out]; show (isTerm t.data.toList t.size && _) = _; rw [ht]; rfl
    have H := Lib.hid H
    go_enter Try.func65, Try.ntmps65
    go_wp2_with (go_at_call 45; refine (termValidS _ _ _ hs).mono ?_; rw [ht]; rintro e w' ⟨rfl, rfl⟩)
    go_ret3
    exact ⟨by unfold psV; rw [H.out]; rfl, rfl⟩
  by_cases h42 : 0 ≤ findB t.data.toList 42
  · have H : isState t.data.toList = false := by rw [hz.out]; simp [h42]
    have H := Lib.hid H
    go_enter Try.func65, Try.ntmps65
    go_wp2_with (first | (go_at_call 45; refine (termValidS _ _ _ hs).mono ?_; rw [ht]; rintro e w' ⟨rfl, rfl⟩) | (go_at_call 113; refine (l14Find _ _ 42 rfl _ hs).mono ?_; rintro e w' ⟨rfl, rfl⟩))
    go_ret3
    exact ⟨by unfold psV; rw [H.out]; rfl, rfl⟩
  · have H : isState t.data.toList = true := by rw [hz.out]; show (isTerm t.data.toList t.size && _) = _; rw [ht]; simp [h42]
    have h5 : t.size ≤ 5 := by
      unfold isState at H; simp at H; exact H.1.2
    have ha : t.data.toList.all zb = true := by unfold isState at H; simp only [Bool.and_eq_true] at H; exact H.2
    have hall : ∀ k (h : k < t.size), (t[k].toNat : Int) = 48 ∨ (t[k].toNat : Int) = 49 := by
      intro k hk
      exact (zb_iff _).1 (List.all_eq_true.1 ha t[k] (List.getElem_mem (l := t.data.toList) (n := k) hk))
    have H := Lib.hid H
    have hall := Lib.hid hall
    have ha := Lib.hid ha
    go_enter Try.func65, Try.ntmps65
    go_wp2_with (first | (go_at_call 45; refine (termValidS _ _ _ hs).mono ?_; rw [ht]; rintro e w' ⟨rfl, rfl⟩) | (go_at_call 113; refine (l14Find _ _ 42 rfl _ hs).mono ?_; rintro e w' ⟨rfl, rfl⟩))
    go_loop [5, 6] (fun s i => ∃ k : Nat, k ≤ t.size ∧ i = .int .i64 k ∧ s = .int .i64 (stN t.data.toList k)) (fun _ i => t.size - (intOf i).toNat)
    case atStart => exact ⟨0, Nat.zero_le _, rfl, rfl⟩
    case round =>
      obtain ⟨k, hk, rfl, rfl⟩ := hrel
      by_cases hlt : k < t.size
      · have hb := hall.out k hlt
        have hb1 : 48 ≤ (t[k].toNat : Int) := by omega
        have hb2 : (t[k].toNat : Int) ≤ 49 := by omega
        clear hb
        go_wp2
        go_round
        case rel => exact ⟨k + 1, by omega, by go_num, by rw [stN_step t.data.toList k t[k] hlt rfl h5 ha.out]⟩
        case measure => simp [intOf]; omega
      · go_wp2
        go_ret3
        obtain rfl : k = t.size := by omega
        exact ⟨by unfold psV; rw [H.out]; rfl, rfl⟩

theorem parseStateI (t : ByteArray) (w : World) (hs : t.size ≤ maxLen) :
    Calls Try.prog 63 #[.string t] w fun e w' => e = .returned (psV t.data.toList) ∧ w = w' := by
  unfold maxLen at hs
  by_cases hr : 1 ≤ t.size ∧ t.size ≤ 5
  · obtain ⟨h1, h5⟩ := hr
    have H : isState t.data.toList = t.data.toList.all zb := by
      unfold isState; rw [show t.data.toList.length = t.size from rfl]; simp [h1, h5]
    have H := Lib.hid H
    go_enter Try.func63, Try.ntmps63
    go_wp2
    go_loop [5, 6] (fun s i => ∃ k : Nat, k ≤ t.size ∧ i = .int .i64 k ∧ s = .int .i64 (stN t.data.toList k) ∧ Hid ((t.data.toList.take k).all zb = true)) (fun _ i => t.size - (intOf i).toNat)
    case atStart => exact ⟨0, Nat.zero_le _, rfl, rfl, rfl⟩
    case round =>
      obtain ⟨k, hk, rfl, rfl, ha⟩ := hrel
      by_cases hlt : k < t.size
      · cases hz : zb t[k]
        · have hz' : ¬ ((t[k].toNat : Int) = 48 ∨ (t[k].toNat : Int) = 49) := fun h => absurd ((zb_iff t[k]).2 h) (by simp [hz])
          have h48 : ((t[k].toNat : Int) != 48) = true := by rw [bne_iff_ne]; omega
          have h49 : ((t[k].toNat : Int) != 49) = true := by rw [bne_iff_ne]; omega
          have hz := Lib.hid hz
          clear hz'
          go_wp2
          go_ret3
          exact ⟨by unfold psV; rw [H.out, all_false_at _ _ _ hlt hz.out]; rfl, rfl⟩
        · have hz' := (zb_iff t[k]).1 hz
          have hb1 : 48 ≤ (t[k].toNat : Int) := by omega
          have hb2 : (t[k].toNat : Int) ≤ 49 := by omega
          have hz := Lib.hid hz
          cases h48 : ((t[k].toNat : Int) != 48)
          · clear hz'
            go_wp2
            go_round
            case rel => exact ⟨k + 1, by omega, by go_num, by rw [stN_one t.data.toList k t[k] hlt rfl h5 hz.out ha.out], all_take_succ _ _ _ hlt ha.out hz.out⟩
            case measure => simp [intOf]; omega
          · have h49 : ((t[k].toNat : Int) != 49) = false := by rw [bne_iff_ne] at h48; rw [bne_eq_false_iff_eq]; omega
            clear hz'
            go_wp2
            go_round
            case rel => exact ⟨k + 1, by omega, by go_num, by rw [stN_one t.data.toList k t[k] hlt rfl h5 hz.out ha.out], all_take_succ _ _ _ hlt ha.out hz.out⟩
            case measure => simp [intOf]; omega
      · have ha' := Lib.hid (all_true_take _ _ _ ha.out (by show t.size ≤ k; omega))
        go_wp2
        go_ret3
        obtain rfl : k = t.size := by omega
        exact ⟨by unfold psV; rw [H.out, ha'.out]; rfl, rfl⟩
  · have H : isState t.data.toList = false := by
      unfold isState; rw [show t.data.toList.length = t.size from rfl]; simp; omega
    have H := Lib.hid H
    rcases Decidable.em (t.size < 1) with h1 | h1
    · clear hr
      go_enter Try.func63, Try.ntmps63
      go_wp2
      go_ret3
      exact ⟨by unfold psV; rw [H.out]; rfl, rfl⟩
    · have h5 : 5 < t.size := by omega
      clear hr
      go_enter Try.func63, Try.ntmps63
      go_wp2
      go_ret3
      exact ⟨by unfold psV; rw [H.out]; rfl, rfl⟩

end Go.Proofs.Ytjpkpdihldcdaaa
