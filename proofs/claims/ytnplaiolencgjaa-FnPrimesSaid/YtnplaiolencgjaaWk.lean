/- Walks: the states of a term. -/
import Derived.Test.YtnplaiolencgjaaPe
import Derived.Test.YtnplaiolencgjaaWs2
import Derived.Test.YtnplaiolencgjaaWn
namespace Go.Proofs.Ytnplaiolencgjaa
set_option linter.unusedVariables false
set_option linter.unusedSimpArgs false
open Go.RowKit

theorem l1BitQ (s i : Nat) (w : World) (hs : s ≤ 65536) (hi : i ≤ 60) :
    Calls Try.prog 54 #[.int .i64 (s : Int), .int .i64 (i : Int)] w fun e w' => e = .returned (.int .i64 ((bitN s i : Nat) : Int)) ∧ w' = w :=
  (l1BitS s i w hs hi).mono fun _ _ ⟨he, hw⟩ => ⟨he, hw.symm⟩

theorem hasStateI (t : ByteArray) (s : Nat) (w : World) (ht : t.size ≤ 5) (hs : s ≤ 65536) (htb : t.data.toList.all tb = true) :
    Calls Try.prog 29 #[.string t, .int .i64 (s : Int)] w fun e w' => e = .returned (.bool (hasN t.data.toList s)) ∧ ∃ n, w' = w.drewN n := by
  have HT := Lib.hid htb
  clear htb
  go_enter Try.func29, Try.ntmps29
  go_wp2_with fail
  go_loopw [5] (fun i wr => ∃ k : Nat, k ≤ t.size ∧ i = .int .i64 k ∧ Hid (∀ j, j < k → t.data.toList.getD j 0 = 42 ∨ (t.data.toList.getD j 0).toNat - 48 = bitN s j) ∧ Hid (∃ n, wr = w.drewN n)) (fun i _ => t.size - (intOf i).toNat)
  case atStart => exact ⟨0, Nat.zero_le _, rfl, fun j hj => absurd hj (by omega), ⟨0, rfl⟩⟩
  case round =>
    obtain ⟨k, hk, rfl, hj, hW⟩ := hrel
    by_cases hlt : k < t.size
    · have b1 := getD_byte t k hlt
      have hbl := bitN_le s k
      have E := bit_and s k (by omega)
      rcases tb_at t k hlt HT.out with hc | hc | hc
      · have h1 : ((t[k].toNat : Int) != 42) = false := by rw [hc]; rfl
        have HJ : Hid (t.data.toList.getD k 0 = 42 ∨ (t.data.toList.getD k 0).toNat - 48 = bitN s k) := .inl (b1.trans hc)
        clear b1 hc
        go_wp2_with fail
        go_quiet (fail)
        go_wp2_with fail
        go_roundw
        case rel =>
          refine ⟨k + 1, by omega, by go_num, fun j hjk => ?_, ?_⟩
          · rcases Nat.lt_or_ge j k with h | h
            · exact hj.out j h
            · obtain rfl : j = k := by omega
              exact HJ.out
          · obtain ⟨n, rfl⟩ := hW.out
            exact ⟨n + nq, by rw [World.drewN_drewN]⟩
        case measure => simp [intOf]; omega
      · have h0 : (t[k].toNat : Int) = 48 := by rw [hc]; rfl
        rcases (show bitN s k = 0 ∨ bitN s k = 1 by omega) with c | c
        · have HJ : Hid (t.data.toList.getD k 0 = 42 ∨ (t.data.toList.getD k 0).toNat - 48 = bitN s k) := .inr (by rw [b1, hc, c]; rfl)
          clear b1 hc
          go_wp2_with fail
          go_quiet (fail)
          go_wp2_with fail
          go_roundw
          case rel =>
            refine ⟨k + 1, by omega, by go_num, fun j hjk => ?_, ?_⟩
            · rcases Nat.lt_or_ge j k with h | h
              · exact hj.out j h
              · obtain rfl : j = k := by omega
                exact HJ.out
            · obtain ⟨n, rfl⟩ := hW.out
              exact ⟨n + nq, by rw [World.drewN_drewN]⟩
          case measure => simp [intOf]; omega
        · have HF := Lib.hid (hasN_false t.data.toList s k hlt (by rw [b1, hc]; decide) (by rw [b1, hc, c]; decide))
          clear b1 hc
          go_wp2_with fail
          go_quiet (fail)
          go_wp2_with fail
          go_ret
          refine ⟨ret_bool HF.out.symm, ?_⟩
          obtain ⟨n, rfl⟩ := hW.out
          exact ⟨n + nq, by rw [World.drewN_drewN]⟩
      · have h0 : (t[k].toNat : Int) = 49 := by rw [hc]; rfl
        rcases (show bitN s k = 0 ∨ bitN s k = 1 by omega) with c | c
        · have HF := Lib.hid (hasN_false t.data.toList s k hlt (by rw [b1, hc]; decide) (by rw [b1, hc, c]; decide))
          clear b1 hc
          go_wp2_with fail
          go_quiet (fail)
          go_wp2_with fail
          go_ret
          refine ⟨ret_bool HF.out.symm, ?_⟩
          obtain ⟨n, rfl⟩ := hW.out
          exact ⟨n + nq, by rw [World.drewN_drewN]⟩
        · have HJ : Hid (t.data.toList.getD k 0 = 42 ∨ (t.data.toList.getD k 0).toNat - 48 = bitN s k) := .inr (by rw [b1, hc, c]; rfl)
          clear b1 hc
          go_wp2_with fail
          go_quiet (fail)
          go_wp2_with fail
          go_roundw
          case rel =>
            refine ⟨k + 1, by omega, by go_num, fun j hjk => ?_, ?_⟩
            · rcases Nat.lt_or_ge j k with h | h
              · exact hj.out j h
              · obtain rfl : j = k := by omega
                exact HJ.out
            · obtain ⟨n, rfl⟩ := hW.out
              exact ⟨n + nq, by rw [World.drewN_drewN]⟩
          case measure => simp [intOf]; omega
    · go_wp2_with fail
      go_ret
      exact ⟨ret_bool (hasN_true _ _ (fun i hi => hj.out i (by have : i < t.size := hi; omega))).symm, hW.out⟩

theorem l2HasS (t : ByteArray) (s : Nat) (w : World) (ht : t.size ≤ 5) (hs : s ≤ 65536) (htb : t.data.toList.all tb = true) :
    Calls Try.prog 46 #[.string t, .int .i64 (s : Int)] w fun e w' => e = .returned (.bool (hasN t.data.toList s)) ∧ ∃ n, w' = w.drewN n := by
  have HT := Lib.hid htb
  clear htb
  go_enter Try.func46, Try.ntmps46
  go_wp2_with fail
  go_loopw [5] (fun i wr => ∃ k : Nat, k ≤ t.size ∧ i = .int .i64 k ∧ Hid (∀ j, j < k → t.data.toList.getD j 0 = 42 ∨ (t.data.toList.getD j 0).toNat - 48 = bitN s j) ∧ Hid (∃ n, wr = w.drewN n)) (fun i _ => t.size - (intOf i).toNat)
  case atStart => exact ⟨0, Nat.zero_le _, rfl, fun j hj => absurd hj (by omega), ⟨0, rfl⟩⟩
  case round =>
    obtain ⟨k, hk, rfl, hj, hW⟩ := hrel
    by_cases hlt : k < t.size
    · have b1 := getD_byte t k hlt
      have hbl := bitN_le s k
      have E := bit_and s k (by omega)
      rcases tb_at t k hlt HT.out with hc | hc | hc
      · have h1 : ((t[k].toNat : Int) != 42) = false := by rw [hc]; rfl
        have HJ : Hid (t.data.toList.getD k 0 = 42 ∨ (t.data.toList.getD k 0).toNat - 48 = bitN s k) := .inl (b1.trans hc)
        clear b1 hc
        go_wp2_with fail
        go_quiet (fail)
        go_wp2_with fail
        go_roundw
        case rel =>
          refine ⟨k + 1, by omega, by go_num, fun j hjk => ?_, ?_⟩
          · rcases Nat.lt_or_ge j k with h | h
            · exact hj.out j h
            · obtain rfl : j = k := by omega
              exact HJ.out
          · obtain ⟨n, rfl⟩ := hW.out
            exact ⟨n + nq, by rw [World.drewN_drewN]⟩
        case measure => simp [intOf]; omega
      · have h0 : (t[k].toNat : Int) = 48 := by rw [hc]; rfl
        rcases (show bitN s k = 0 ∨ bitN s k = 1 by omega) with c | c
        · have HJ : Hid (t.data.toList.getD k 0 = 42 ∨ (t.data.toList.getD k 0).toNat - 48 = bitN s k) := .inr (by rw [b1, hc, c]; rfl)
          clear b1 hc
          go_wp2_with fail
          go_quiet ((go_at_call 54; exact Calls.quiet_of_same (l1BitQ s k _ hs (by omega))))
          go_wp2_with fail
          go_roundw
          case rel =>
            refine ⟨k + 1, by omega, by go_num, fun j hjk => ?_, ?_⟩
            · rcases Nat.lt_or_ge j k with h | h
              · exact hj.out j h
              · obtain rfl : j = k := by omega
                exact HJ.out
            · obtain ⟨n, rfl⟩ := hW.out
              exact ⟨n + nq, by rw [World.drewN_drewN]⟩
          case measure => simp [intOf]; omega
        · have HF := Lib.hid (hasN_false t.data.toList s k hlt (by rw [b1, hc]; decide) (by rw [b1, hc, c]; decide))
          clear b1 hc
          go_wp2_with fail
          go_quiet ((go_at_call 54; exact Calls.quiet_of_same (l1BitQ s k _ hs (by omega))))
          go_wp2_with fail
          go_ret
          refine ⟨ret_bool HF.out.symm, ?_⟩
          obtain ⟨n, rfl⟩ := hW.out
          exact ⟨n + nq, by rw [World.drewN_drewN]⟩
      · have h0 : (t[k].toNat : Int) = 49 := by rw [hc]; rfl
        rcases (show bitN s k = 0 ∨ bitN s k = 1 by omega) with c | c
        · have HF := Lib.hid (hasN_false t.data.toList s k hlt (by rw [b1, hc]; decide) (by rw [b1, hc, c]; decide))
          clear b1 hc
          go_wp2_with fail
          go_quiet ((go_at_call 54; exact Calls.quiet_of_same (l1BitQ s k _ hs (by omega))))
          go_wp2_with fail
          go_ret
          refine ⟨ret_bool HF.out.symm, ?_⟩
          obtain ⟨n, rfl⟩ := hW.out
          exact ⟨n + nq, by rw [World.drewN_drewN]⟩
        · have HJ : Hid (t.data.toList.getD k 0 = 42 ∨ (t.data.toList.getD k 0).toNat - 48 = bitN s k) := .inr (by rw [b1, hc, c]; rfl)
          clear b1 hc
          go_wp2_with fail
          go_quiet ((go_at_call 54; exact Calls.quiet_of_same (l1BitQ s k _ hs (by omega))))
          go_wp2_with fail
          go_roundw
          case rel =>
            refine ⟨k + 1, by omega, by go_num, fun j hjk => ?_, ?_⟩
            · rcases Nat.lt_or_ge j k with h | h
              · exact hj.out j h
              · obtain rfl : j = k := by omega
                exact HJ.out
            · obtain ⟨n, rfl⟩ := hW.out
              exact ⟨n + nq, by rw [World.drewN_drewN]⟩
          case measure => simp [intOf]; omega
    · go_wp2_with fail
      go_ret
      exact ⟨ret_bool (hasN_true _ _ (fun i hi => hj.out i (by have : i < t.size := hi; omega))).symm, hW.out⟩

end Go.Proofs.Ytnplaiolencgjaa
