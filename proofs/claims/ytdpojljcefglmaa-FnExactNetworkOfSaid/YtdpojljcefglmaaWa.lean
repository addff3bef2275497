/- Walks: the small functions on texts. -/
import Derived.Test.YtdpojljcefglmaaWl
import Derived.Test.YtdpojljcefglmaaChecked
import Derived.WalkKit
import Derived.WalkLawsBesides
import Derived.WalkSpells
import Derived.Below
import Derived.Lib.Hide
import Derived.IntWalk
import Derived.Deep.Light
import Derived.Outline
namespace Go.Proofs.Ytdpojljcefglmaa
set_option linter.unusedVariables false
set_option linter.unusedSimpArgs false
open Go.RowKit

theorem l1In (n lo hi : Int) (w : World) :
    Calls Try.prog 30 #[.int .i64 n, .int .i64 lo, .int .i64 hi] w fun e w' => e = .returned (.bool (decide (lo ≤ n) && decide (n ≤ hi))) ∧ w = w' := by
  by_cases h1 : lo ≤ n <;> by_cases h2 : n ≤ hi
  all_goals
    go_enter Try.func30, Try.ntmps30
    go_wp2
    go_ret
    exact ⟨ret_bool (by simp [h1, h2]), rfl⟩

theorem l14Find (s : ByteArray) (c : Int) (cc : UInt8) (hc : c = cc.toNat) (w : World) (hs : s.size ≤ maxLen) :
    Calls Try.prog 53 #[.string s, .int .u8 c] w fun e w' => e = .returned (.int .i64 (findB s.data.toList cc)) ∧ w = w' := by
  unfold maxLen at hs
  subst hc
  go_enter Try.func53, Try.ntmps53
  go_wp2
  go_loop [5] (fun i => ∃ k : Nat, k ≤ s.size ∧ i = .int .i64 k ∧ Hid (∀ x ∈ s.data.toList.take k, x ≠ cc)) (fun i => s.size - (intOf i).toNat)
  case atStart => exact ⟨0, Nat.zero_le _, rfl, by simp [Hid]⟩
  case round =>
    obtain ⟨k, hk, rfl, ha⟩ := hrel
    by_cases hlt : k < s.size
    · cases hb : ((s[k].toNat : Int) == (cc.toNat : Int))
      · have hb' : s[k] ≠ cc := by rintro rfl; simp at hb
        have hb' := Lib.hid hb'
        go_wp2
        go_round
        case rel => exact ⟨k + 1, by omega, by go_num, notin_succ _ _ _ hlt ha.out hb'.out⟩
        case measure => simp [intOf]; omega
      · have hb' := Lib.hid (UInt8.toNat_inj.1 (Int.ofNat.inj (eq_of_beq hb)))
        go_wp2
        go_ret
        exact ⟨ret_int (findB_at _ _ _ hlt hb'.out ha.out).symm, rfl⟩
    · go_wp2
      go_ret
      exact ⟨ret_int (findB_no _ _ (by have := ha.out; rwa [List.take_of_length_le (by show s.size ≤ k; omega)] at this)).symm, rfl⟩

end Go.Proofs.Ytdpojljcefglmaa
