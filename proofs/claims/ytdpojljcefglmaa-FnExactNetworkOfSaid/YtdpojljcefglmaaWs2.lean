/- Walks: the reference's functions that make tables. -/
import Derived.Test.YtdpojljcefglmaaWs
import Derived.Test.YtdpojljcefglmaaWt
namespace Go.Proofs.Ytdpojljcefglmaa
set_option linter.unusedVariables false
set_option linter.unusedSimpArgs false
open Go.RowKit

theorem l1BitS (s i : Nat) (w : World) (hs : s ≤ 65536) (hi : i ≤ 60) :
    Calls Try.prog 55 #[.int .i64 (s : Int), .int .i64 (i : Int)] w fun e w' => e = .returned (.int .i64 ((bitN s i : Nat) : Int)) ∧ w = w' := by
  have E := Lib.hid (bit_and s i (by omega))
  go_enter Try.func55, Try.ntmps55
  go_wp2
  go_ret
  exact ⟨ret_int E.out, rfl⟩

theorem l1Text_some (zs : List Nat) (b off c : Nat) (w : World) (h01 : ∀ z ∈ zs, z ≤ 1) (hl : zs.length ≤ 65536) (hc : ∀ k z, zs[k]? = some z → w.cell? ⟨b, off + k, none⟩ = some (.int .i64 ((z : Nat) : Int))) :
    Calls Try.prog 34 #[.slice (some ⟨b, off, none⟩) zs.length c] w fun e w' => e = .returned (.string ⟨(digs zs).toArray⟩) ∧ Below w.heap.size w w' := by
  have HC := Lib.hid hc
  have H01 := Lib.hid h01
  obtain ⟨m, hm⟩ : ∃ m, m = zs.length := ⟨_, rfl⟩
  rw [← hm]
  rw [← hm] at hl
  have HM := Lib.hid hm
  clear hc h01 hm
  go_enter Try.func34, Try.ntmps34
  go_wp2_with fail
  go_loopw [3, 4] (fun o i wr => ∃ (k : Nat) (O : ByteArray), k ≤ m ∧ i = .int .i64 k ∧ o = .string O ∧ O.size ≤ k ∧ Hid (O.data.toList = digs (zs.take k)) ∧ Hid (∃ n, wr = w.drewN n)) (fun _ i _ => m - (intOf i).toNat)
  case atStart => exact ⟨0, _, Nat.zero_le _, rfl, rfl, Nat.le_refl _, rfl, ⟨0, rfl⟩⟩
  case round =>
    obtain ⟨k, O, hk, rfl, rfl, hO, hD, hW⟩ := hrel
    by_cases hlt : k < m
    · obtain ⟨z, hz⟩ : ∃ z, zs[k]? = some z := ⟨_, List.getElem?_eq_getElem (by rw [HM.out] at hlt; exact hlt)⟩
      have hz1 : z ≤ 1 := H01.out z (List.mem_of_getElem? hz)
      have hcell : wr.cell? ⟨b, off + k, none⟩ = some (.int .i64 ((z : Nat) : Int)) := by
        obtain ⟨n, rfl⟩ := hW.out
        exact HC.out k z hz
      have HS := Lib.hid (digs_succ zs k z hz)
      clear hz
      obtain rfl | rfl : z = 0 ∨ z = 1 := by omega
      all_goals
        go_wp2_with fail
        go_quiet (fail)
        go_wp2_with fail
        go_roundw
        case rel =>
          refine ⟨k + 1, _, by omega, by go_num, rfl, by simp; omega, ?_, ?_⟩
          · show _ = _
            rw [HS.out, ← hD.out]
            simp
          · obtain ⟨n, rfl⟩ := hW.out
            exact ⟨n + nq, by rw [World.drewN_drewN]⟩
        case measure => simp [intOf]; omega
    · obtain rfl : k = m := by omega
      go_wp2_with fail
      go_ret
      refine ⟨ret_str ?_, ?_⟩
      · rw [ba_list O, hD.out, HM.out, List.take_length]
      · obtain ⟨n, rfl⟩ := hW.out
        exact ⟨rfl, rfl, rfl, Nat.le_refl _, fun _ _ => rfl⟩

theorem l1Text_nil (A : Option Addr) (c : Nat) (w : World) :
    Calls Try.prog 34 #[.slice A 0 c] w fun e w' => e = .returned (.string ⟨#[]⟩) ∧ w = w' := by
  go_enter Try.func34, Try.ntmps34
  go_wp2_with fail
  refine wp_loop_rounds 1 ?_
  rw [rounds_succ]
  go_wp2_with fail
  go_ret
  exact ⟨rfl, rfl⟩

theorem l1TextS (zs : List Nat) (v : Value) (w : World) (h01 : ∀ z ∈ zs, z ≤ 1) (hl : zs.length ≤ 65536) (hr : Row w v (zs.map fun z => .int .i64 ((z : Nat) : Int))) :
    Calls Try.prog 34 #[v] w fun e w' => e = .returned (.string ⟨(digs zs).toArray⟩) ∧ Below w.heap.size w w' := by
  obtain ⟨A, c, rfl, h1, h2, hc⟩ := hr
  rw [List.length_map] at h1 ⊢
  by_cases hz : zs = []
  · subst hz
    exact (l1Text_nil A c w).mono fun e w' ⟨he, hw⟩ => ⟨he, hw ▸ Below.refl _ _⟩
  · obtain ⟨b, off, rfl, hlt, hk⟩ := hc (by simpa using hz)
    exact l1Text_some zs b off c w h01 hl (fun k z h => hk k _ (by simp [h]))

end Go.Proofs.Ytdpojljcefglmaa
