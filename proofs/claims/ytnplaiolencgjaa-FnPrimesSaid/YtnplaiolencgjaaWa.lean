/- Walks: the small functions on texts. -/
import Derived.Test.YtnplaiolencgjaaWl
import Derived.Test.YtnplaiolencgjaaChecked
import Derived.WalkKit
import Derived.WalkLawsBesides
import Derived.WalkSpells
import Derived.Below
import Derived.Lib.Hide
import Derived.IntWalk
import Derived.Deep.Light
import Derived.Outline
namespace Go.Proofs.Ytnplaiolencgjaa
set_option linter.unusedVariables false
set_option linter.unusedSimpArgs false
open Go.RowKit


theorem termValidI (t : ByteArray) (n : Int) (w : World) (hs : t.size ≤ maxLen) :
    Calls Try.prog 22 #[.string t, .int .i64 n] w fun e w' => e = .returned (.bool (isTerm t.data.toList n)) ∧ w = w' := by
  unfold maxLen at hs
  by_cases hr : n < 1 ∨ 5 < n ∨ (t.data.toList.length : Int) ≠ n
  · have H := Lib.hid (isTerm_range _ _ hr)
    have hl : t.data.toList.length = t.size := rfl
    rw [hl] at hr
    rcases Decidable.em (n < 1) with h1 | h1
    · go_enter Try.func22, Try.ntmps22
      go_wp2
      go_ret
      exact ⟨ret_bool H.out.symm, rfl⟩
    rcases Decidable.em (5 < n) with h2 | h2
    · go_enter Try.func22, Try.ntmps22
      go_wp2
      go_ret
      exact ⟨ret_bool H.out.symm, rfl⟩
    have h3 : ((t.size : Int) != n) = true := by rw [bne_iff_ne]; omega
    go_enter Try.func22, Try.ntmps22
    go_wp2
    go_ret
    exact ⟨ret_bool H.out.symm, rfl⟩
  · have h1 : 1 ≤ n := by omega
    have h2 : n ≤ 5 := by omega
    have h3 : (t.data.toList.length : Int) = n := by omega
    have H := Lib.hid (isTerm_all _ _ h1 h2 h3)
    have hl : t.data.toList.length = t.size := rfl
    rw [hl] at h3
    have hne : ((t.size : Int) != n) = false := by rw [h3]; simp
    subst h3
    clear hr hl
    go_enter Try.func22, Try.ntmps22
    go_wp2
    go_loop [19] (fun i => ∃ k : Nat, k ≤ t.size ∧ i = .int .i64 k ∧ Hid ((t.data.toList.take k).all tb = true)) (fun i => t.size - (intOf i).toNat)
    case atStart => exact ⟨0, Nat.zero_le _, rfl, rfl⟩
    case round =>
      obtain ⟨k, hk, rfl, ha⟩ := hrel
      by_cases hlt : k < t.size
      · go_wp2
        all_goals first
          | (go_ret
             have hb : tb t[k] = false := by go_light; rw [Bool.eq_false_iff, ne_eq, tb_iff]; simp_all
             exact ⟨ret_bool (by rw [H.out]; exact (all_false_at _ _ _ hlt hb).symm), rfl⟩)
          | (go_round
             case rel =>
               have hb : tb t[k] = true := by go_light; rw [tb_iff]; simp_all
               exact ⟨k + 1, by omega, by go_num, all_take_succ _ _ _ hlt ha.out hb⟩
             case measure => simp [intOf]; omega)
      · go_wp2
        go_ret
        exact ⟨ret_bool (by rw [H.out]; exact (all_true_take _ _ _ ha.out (by show t.size ≤ k; omega)).symm), rfl⟩

end Go.Proofs.Ytnplaiolencgjaa
