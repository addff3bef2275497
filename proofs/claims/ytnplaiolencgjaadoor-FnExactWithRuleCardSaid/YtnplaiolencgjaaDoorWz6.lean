/- Walks: a step of a network, the reference. -/
import Derived.Test.YtnplaiolencgjaaDoorPn
import Derived.Test.YtnplaiolencgjaaDoorWs4
namespace Go.Proofs.YtnplaiolencgjaaDoor
set_option linter.unusedVariables false
set_option linter.unusedSimpArgs false
open Go.RowKit

theorem l3AllS (A : Option Addr) (n c : Nat) (w : World) (hn : n ≤ 5) :
    Calls Tryd.prog 43 #[.slice A n c] w fun e w' => e = .returned (.int .i64 ((2 ^ n - 1 : Nat) : Int)) ∧ w = w' := by
  have hq : n = 0 ∨ n = 1 ∨ n = 2 ∨ n = 3 ∨ n = 4 ∨ n = 5 := by omega
  clear hn
  rcases hq with rfl | rfl | rfl | rfl | rfl | rfl <;>
  · go_enter Tryd.func43, Tryd.ntmps43
    go_wp2_with fail
    go_ret
    exact ⟨ret_int (by decide), rfl⟩

theorem l3StepS (ts : List (List UInt8)) (v : Value) (s which : Nat) (w : World) (hok : wOk ts = true) (hs : s < 2 ^ ts.length) (hw : which ≤ 65536) (hr : Row w v (textsV ts)) :
    Calls Tryd.prog 40 #[v, .int .i64 (s : Int), .int .i64 (which : Int)] w fun e w' => e = .returned (.int .i64 ((stepK ts s which ts.length : Nat) : Int)) ∧ w = w' := by
  obtain ⟨A, c, rfl, k1, k2, hc⟩ := hr
  rw [textsV_length] at k1 ⊢
  have h5 := wOk_five hok
  have HLT := Lib.hid (fun k hk => stepK_lt hok s which ts.length h5 hs k hk)
  have HTT := Lib.hid (fun (k : Nat) (t : List UInt8) (ht : ts[k]? = some t) => And.intro (isTab_pos t (wOk_tab hok ht).1).2 (wOk_len hok ht))
  have HWL := Lib.hid (wv_le hok)
  have HC := Lib.hid hc
  obtain ⟨n, hn⟩ : ∃ n, ts.length = n := ⟨_, rfl⟩
  rw [hn] at k1 h5 hs HLT HTT ⊢
  have HN := Lib.hid hn
  have hp32 := pow_le32 n h5
  have HS := Lib.hid hs
  have hs32 : s < 32 := Nat.lt_of_lt_of_le hs hp32
  have HP := Lib.hid hp32
  unfold maxLen at k2
  clear hc hn hs hok hp32
  go_enter Tryd.func40, Tryd.ntmps40
  go_wp2_with fail
  go_loop [7, 8] (fun o j => ∃ k : Nat, k ≤ n ∧ j = .int .i64 k ∧ o = .int .i64 ((stepK ts s which k : Nat) : Int)) (fun _ j => n - (intOf j).toNat)
  case atStart => exact ⟨0, Nat.zero_le _, rfl, rfl⟩
  case round =>
    obtain ⟨k, hk, rfl, rfl⟩ := hrel
    by_cases hlt : k < n
    · obtain ⟨t, ht⟩ : ∃ t, ts[k]? = some t := ⟨_, List.getElem?_eq_getElem (by rw [HN.out]; exact hlt)⟩
      obtain ⟨b, off, rfl, hbl, hcells⟩ := HC.out (by intro e; have e2 := textsV_get _ _ _ ht; rw [e] at e2; cases e2)
      have hcell := hcells k _ (textsV_get _ _ _ ht)
      have HZ := Lib.hid (HTT.out k t ht)
      have HV := Lib.hid (wv_at ht s)
      obtain ⟨S, hS⟩ : ∃ S : ByteArray, S = ⟨t.toArray⟩ := ⟨_, rfl⟩
      rw [← hS] at hcell
      have HSL := Lib.hid (show S.data.toList = t by rw [hS])
      have HSS := Lib.hid (show S.size = t.length by rw [hS]; rfl)
      have hsS : s < S.size := by rw [HSS.out, HZ.out.2]; exact HS.out
      have ho32 : stepK ts s which k < 32 := Nat.lt_of_lt_of_le (HLT.out k hk) HP.out
      have HE := Lib.hid (show stepK ts s which (k + 1) = if bitN which k = 1 then holdN (stepK ts s which k) k (wv ts k s) else stepK ts s which k from rfl)
      generalize stepK ts s which k = o at *
      have AT := Lib.hid (fun w => l1AtS S s w hsS (by rw [HSL.out]; exact HZ.out.1))
      rw [HSL.out, ← HV.out] at AT
      have HW1 := HWL.out k s
      generalize wv ts k s = u at *
      clear hS ht hcells hsS
      have BT := Lib.hid (fun w => l1BitS which k w hw (by omega))
      have ST := Lib.hid (fun w => l1SetS o k (u : Int) w ho32 (by omega) (by omega) (by omega))
      rw [Int.toNat_natCast] at ST
      by_cases hb : bitN which k = 1
      · rw [hb] at BT
        rw [if_pos hb] at HE
        clear hb
        go_wp2_with (first | (go_at_call 53; (with_reducible refine (BT.out _).mono ?_); rintro e w3 ⟨rfl, rfl⟩) | (go_at_call 55; (with_reducible refine (AT.out _).mono ?_); rintro e w3 ⟨rfl, rfl⟩) | (go_at_call 54; (with_reducible refine (ST.out _).mono ?_); rintro e w3 ⟨rfl, rfl⟩) | fail)
        go_round
        case rel => exact ⟨k + 1, by omega, by go_num, by rw [HE.out]⟩
        case measure => simp [intOf]; omega
      · have hb0 : bitN which k = 0 := by have := bitN_le which k; omega
        rw [hb0] at BT
        rw [if_neg hb] at HE
        clear hb hb0
        go_wp2_with (first | (go_at_call 53; (with_reducible refine (BT.out _).mono ?_); rintro e w3 ⟨rfl, rfl⟩) | fail)
        go_round
        case rel => exact ⟨k + 1, by omega, by go_num, by rw [HE.out]⟩
        case measure => simp [intOf]; omega
    · obtain rfl : k = n := by omega
      go_wp2_with fail
      go_ret
      exact ⟨rfl, rfl⟩

end Go.Proofs.YtnplaiolencgjaaDoor
