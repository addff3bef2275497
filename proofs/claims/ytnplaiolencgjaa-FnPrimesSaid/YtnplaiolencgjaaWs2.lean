/- Walks: the reference's functions that make tables. -/
import Derived.Test.YtnplaiolencgjaaWs
import Derived.Test.YtnplaiolencgjaaWt
namespace Go.Proofs.Ytnplaiolencgjaa
set_option linter.unusedVariables false
set_option linter.unusedSimpArgs false
open Go.RowKit

theorem l1BitS (s i : Nat) (w : World) (hs : s ≤ 65536) (hi : i ≤ 60) :
    Calls Try.prog 54 #[.int .i64 (s : Int), .int .i64 (i : Int)] w fun e w' => e = .returned (.int .i64 ((bitN s i : Nat) : Int)) ∧ w = w' := by
  have E := Lib.hid (bit_and s i (by omega))
  go_enter Try.func54, Try.ntmps54
  go_wp2
  go_ret
  exact ⟨ret_int E.out, rfl⟩

theorem l14ManyS (x : ByteArray) (n : Nat) (w : World) (hx : x.size ≤ 64) (hn : n ≤ 1000) :
    Calls Try.prog 50 #[.string x, .int .i64 (n : Int)] w fun e w' => e = .returned (.string ⟨(many x.data.toList n).toArray⟩) ∧ w = w' := by
  go_enter Try.func50, Try.ntmps50
  go_wp2
  go_loop [0, 1, 5] (fun s n' o => ∃ (S O : ByteArray) (k : Nat), s = .string S ∧ o = .string O ∧ n' = .int .i64 k ∧ k ≤ 1000 ∧ S.size ≤ 128000 ∧ O.size ≤ 64000 ∧ Hid (O.data.toList ++ many S.data.toList k = many x.data.toList n)) (fun _ n' _ => (intOf n').toNat)
  case atStart => exact ⟨x, _, n, rfl, rfl, rfl, hn, by omega, by show (0 : Nat) ≤ _; omega, rfl⟩
  case round =>
    obtain ⟨S, O, k, rfl, rfl, rfl, hk, hS, hO, hm⟩ := hrel
    by_cases h0 : 0 < k
    · have hl := congrArg List.length hm.out
      rw [List.length_append, many_length, many_length] at hl
      have hx2 : n * x.data.toList.length ≤ 1000 * 64 := Nat.mul_le_mul hn hx
      have hS2 : 1 * S.data.toList.length ≤ k * S.data.toList.length := Nat.mul_le_mul_right _ h0
      have e1 : S.data.toList.length = S.size := rfl
      have e2 : O.data.toList.length = O.size := rfl
      rw [e1] at hS2 hl
      rw [e2] at hl
      have hb : O.size + S.size ≤ 64000 := by omega
      clear hl hx2 hS2 e1 e2
      cases hp : ((k : Int) % 2 == 1)
      · have HP := Lib.hid (many_even O.data.toList S.data.toList k (by intro h; rw [beq_eq_false_iff_ne] at hp; omega))
        go_wp2
        go_round
        case rel => exact ⟨S ++ S, O, k / 2, rfl, rfl, by go_num, by omega, by simp; omega, hO, by rw [show (S ++ S).data.toList = S.data.toList ++ S.data.toList by simp]; exact HP.out.trans hm.out⟩
        case measure => simp [intOf]; omega
      · have HP := Lib.hid (many_odd O.data.toList S.data.toList k (by rw [beq_iff_eq] at hp; omega))
        go_wp2
        go_round
        case rel => exact ⟨S ++ S, O ++ S, k / 2, rfl, rfl, by go_num, by omega, by simp; omega, by simp; omega, by rw [show (S ++ S).data.toList = S.data.toList ++ S.data.toList by simp, show (O ++ S).data.toList = O.data.toList ++ S.data.toList by simp]; exact HP.out.trans hm.out⟩
        case measure => simp [intOf]; omega
    · obtain rfl : k = 0 := by omega
      go_wp2
      go_ret
      refine ⟨ret_str ?_, rfl⟩
      have := hm.out
      rw [many_zero, List.append_nil] at this
      rw [← this]

theorem l1Text_some (zs : List Nat) (b off c : Nat) (w : World) (h01 : ∀ z ∈ zs, z ≤ 1) (hl : zs.length ≤ 65536) (hc : ∀ k z, zs[k]? = some z → w.cell? ⟨b, off + k, none⟩ = some (.int .i64 ((z : Nat) : Int))) :
    Calls Try.prog 55 #[.slice (some ⟨b, off, none⟩) zs.length c] w fun e w' => e = .returned (.string ⟨(digs zs).toArray⟩) ∧ Below w.heap.size w w' := by
  have HC := Lib.hid hc
  have H01 := Lib.hid h01
  obtain ⟨m, hm⟩ : ∃ m, m = zs.length := ⟨_, rfl⟩
  rw [← hm]
  rw [← hm] at hl
  have HM := Lib.hid hm
  clear hc h01 hm
  go_enter Try.func55, Try.ntmps55
  go_wp2_with fail
  go_loopw [3, 4] (fun o i wr => ∃ (k : Nat) (O : ByteArray), k ≤ m ∧ i = .int .i64 k ∧ o = .string O ∧ O.size ≤ k ∧ Hid (O.data.toList = digs (zs.take k)) ∧ Hid (∃ n, wr = w.drewN n)) (fun _ i _ => m - (intOf i).toNat)
  case atStart => exact ⟨0, _, Nat.zero_le _, rfl, rfl, Nat.le_refl _, rfl, ⟨0, rfl⟩⟩
  case round =>
    obtain ⟨k, O, hk, rfl, rfl, hO, hD, hW⟩ := hrel
    by_cases hlt : k < m
    · obtain ⟨z, hz⟩ : ∃ z, zs[k]? = some z := ⟨_, List.getElem?_eq_getElem (by rw [HM.out] at hlt; exact hlt)⟩
      have hz1 : z ≤ 1 := H01.out z (List.mem_of_getElem? hz)
      have hcell : wr.cell? ⟨b, off + k, none⟩ = some (.int .i64 ((z : Nat) : Int)) := by
        obtain ⟨n, rfl⟩ := hW.out
        exact HC.out k z hz
      have HS := Lib.hid (digs_succ zs k z hz)
      clear hz
      obtain rfl | rfl : z = 0 ∨ z = 1 := by omega
      all_goals
        go_wp2_with fail
        go_quiet (fail)
        go_wp2_with fail
        go_roundw
        case rel =>
          refine ⟨k + 1, _, by omega, by go_num, rfl, by simp; omega, ?_, ?_⟩
          · show _ = _
            rw [HS.out, ← hD.out]
            simp
          · obtain ⟨n, rfl⟩ := hW.out
            exact ⟨n + nq, by rw [World.drewN_drewN]⟩
        case measure => simp [intOf]; omega
    · obtain rfl : k = m := by omega
      go_wp2_with fail
      go_ret
      refine ⟨ret_str ?_, ?_⟩
      · rw [ba_list O, hD.out, HM.out, List.take_length]
      · obtain ⟨n, rfl⟩ := hW.out
        exact ⟨rfl, rfl, rfl, Nat.le_refl _, fun _ _ => rfl⟩

theorem l1Text_nil (A : Option Addr) (c : Nat) (w : World) :
    Calls Try.prog 55 #[.slice A 0 c] w fun e w' => e = .returned (.string ⟨#[]⟩) ∧ w = w' := by
  go_enter Try.func55, Try.ntmps55
  go_wp2_with fail
  refine wp_loop_rounds 1 ?_
  rw [rounds_succ]
  go_wp2_with fail
  go_ret
  exact ⟨rfl, rfl⟩

theorem l1TextS (zs : List Nat) (v : Value) (w : World) (h01 : ∀ z ∈ zs, z ≤ 1) (hl : zs.length ≤ 65536) (hr : Row w v (zs.map fun z => .int .i64 ((z : Nat) : Int))) :
    Calls Try.prog 55 #[v] w fun e w' => e = .returned (.string ⟨(digs zs).toArray⟩) ∧ Below w.heap.size w w' := by
  obtain ⟨A, c, rfl, h1, h2, hc⟩ := hr
  rw [List.length_map] at h1 ⊢
  by_cases hz : zs = []
  · subst hz
    exact (l1Text_nil A c w).mono fun e w' ⟨he, hw⟩ => ⟨he, hw ▸ Below.refl _ _⟩
  · obtain ⟨b, off, rfl, hlt, hk⟩ := hc (by simpa using hz)
    exact l1Text_some zs b off c w h01 hl (fun k z h => hk k _ (by simp [h]))

end Go.Proofs.Ytnplaiolencgjaa
