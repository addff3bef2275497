/- Walks: the reference's functions on tables. -/
import Derived.Test.YtnplaiolencgjaaWa
import Derived.Test.YtnplaiolencgjaaWo
import Derived.Deep.QuietTactic
import Derived.BigQuiet
namespace Go.Proofs.Ytnplaiolencgjaa
set_option linter.unusedVariables false
set_option linter.unusedSimpArgs false
open Go.RowKit

theorem l1InputsS (m : Nat) (w : World) (hm : m ≤ maxLen) :
    Calls Try.prog 39 #[.int .i64 (m : Int)] w fun e w' => e = .returned (.int .i64 (inpN m)) ∧ w = w' := by
  unfold maxLen at hm
  go_enter Try.func39, Try.ntmps39
  go_wp2_with fail
  go_loop [3] (fun i => ∃ k : Nat, 1 ≤ k ∧ k ≤ 6 ∧ i = .int .i64 k ∧ Hid (∀ j, 1 ≤ j → j < k → m ≠ 2 ^ j)) (fun i => 6 - (intOf i).toNat)
  case atStart => exact ⟨1, by omega, by omega, rfl, fun j h1 h2 => by omega⟩
  case round =>
    obtain ⟨k, h1, h6, rfl, hj⟩ := hrel
    by_cases hlt : k ≤ 5
    · by_cases hk : m = 2 ^ k
      · have hne := eq_pow_true m k hlt hk
        have hK := Lib.hid (inpN_pow m k h1 hlt hk)
        clear hk
        go_wp2_with fail
        go_ret
        exact ⟨ret_int hK.out.symm, rfl⟩
      · have hne := eq_pow_false m k hlt hk
        have hK := Lib.hid hk
        clear hk
        go_wp2_with fail
        go_round
        case rel =>
          refine ⟨k + 1, by omega, by omega, by go_num, fun j a b => ?_⟩
          rcases Nat.lt_or_ge j k with h | h
          · exact hj.out j a h
          · obtain rfl : j = k := by omega
            exact hK.out
        case measure => simp [intOf]; omega
    · go_wp2_with fail
      go_ret
      refine ⟨ret_int ?_, rfl⟩
      rw [inpN, lgN_none _ (fun j a b => hj.out j a (by omega))]
      rfl

theorem tableValidS (f : ByteArray) (w : World) (hs : f.size ≤ maxLen) :
    Calls Try.prog 20 #[.string f] w fun e w' => e = .returned (.bool (isTab f.data.toList)) ∧ w = w' := by
  have hs' := hs
  unfold maxLen at hs'
  go_enter Try.func20, Try.ntmps20
  go_wp2_with fail
  go_loop [3] (fun i => ∃ k : Nat, k ≤ f.size ∧ i = .int .i64 k ∧ Hid ((f.data.toList.take k).all zb = true)) (fun i => f.size - (intOf i).toNat)
  case atStart => exact ⟨0, Nat.zero_le _, rfl, rfl⟩
  case round =>
    obtain ⟨k, hk, rfl, ha⟩ := hrel
    by_cases hlt : k < f.size
    · cases hz : zb f[k]
      · have hz' : ¬ ((f[k].toNat : Int) = 48 ∨ (f[k].toNat : Int) = 49) := fun h => absurd ((zb_iff f[k]).2 h) (by simp [hz])
        have h48 : ((f[k].toNat : Int) != 48) = true := by rw [bne_iff_ne]; omega
        have h49 : ((f[k].toNat : Int) != 49) = true := by rw [bne_iff_ne]; omega
        have HZ := Lib.hid (all_false_at f.data.toList zb k hlt hz)
        clear hz' hz
        go_wp2_with fail
        go_ret
        exact ⟨ret_bool (by unfold isTab; rw [HZ.out]; simp), rfl⟩
      · have hz' := (zb_iff f[k]).1 hz
        have HA := Lib.hid (all_take_succ f.data.toList zb k hlt ha.out hz)
        cases h48 : ((f[k].toNat : Int) != 48)
        · clear hz' hz
          go_wp2_with fail
          go_round
          case rel => exact ⟨k + 1, by omega, by go_num, HA⟩
          case measure => simp [intOf]; omega
        · have h49 : ((f[k].toNat : Int) != 49) = false := by rw [bne_iff_ne] at h48; rw [bne_eq_false_iff_eq]; omega
          clear hz' hz
          go_wp2_with fail
          go_round
          case rel => exact ⟨k + 1, by omega, by go_num, HA⟩
          case measure => simp [intOf]; omega
    · have HA := Lib.hid (all_true_take _ _ _ ha.out (show f.data.toList.length ≤ k by show f.size ≤ k; omega))
      go_wp2_with (go_at_call 39; refine (l1InputsS _ _ hs).mono ?_; rintro e w' ⟨rfl, rfl⟩)
      go_ret
      exact ⟨ret_bool (by unfold isTab; rw [HA.out]; show _ = (decide (0 < lgN f.size) && true); rw [Bool.and_true, inpN_pos]), rfl⟩

theorem l1AtS (f : ByteArray) (s : Nat) (w : World) (hs : s < f.size) (hz : f.data.toList.all zb = true) :
    Calls Try.prog 56 #[.string f, .int .i64 (s : Int)] w fun e w' => e = .returned (.int .i64 ((tv f.data.toList s : Nat) : Int)) ∧ w = w' := by
  obtain ⟨h1, h2, e⟩ := tv_byte f s hs hz
  have E := Lib.hid e
  clear e hz
  go_enter Try.func56, Try.ntmps56
  go_wp2
  go_ret
  exact ⟨ret_int E.out.symm, rfl⟩

end Go.Proofs.Ytnplaiolencgjaa
