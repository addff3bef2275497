/- Walks: what is needed. -/
import Derived.Test.YtnplaiolencgjaaWv2
namespace Go.Proofs.Ytnplaiolencgjaa
set_option linter.unusedVariables false
set_option linter.unusedSimpArgs false
open Go.RowKit

theorem needed1 (b s : Nat) (t : List UInt8) (w : World) (hs : s ≤ 65536) (ht : t.length ≤ 5) (htb : t.all tb = true) (hc : w.cell? ⟨b, 0, none⟩ = some (.int .i64 (s : Int))) :
    Calls Try.prog 44 #[.string ⟨t.toArray⟩, .pointer (some ⟨b, 0, none⟩)] w fun e w' => e = .returned (.bool (hasN t s)) ∧ Below w.heap.size w w' := by
  have HT := Lib.hid htb
  clear htb
  go_enter Try.func44, Try.ntmps44
  go_wp2_with fail
  refine (hasStateI ⟨t.toArray⟩ s _ ht hs HT.out).mono ?_
  rintro e w1 ⟨rfl, hw1⟩
  have hb1 := below_draws2 hw1
  clear hw1
  go_wp2_with fail
  go_ret
  exact ⟨rfl, hb1⟩

theorem neededI (t : List UInt8) (v : Value) (ts : List (List UInt8)) (w : World) (ht : t.length ≤ 5) (htb : t.all tb = true) (hl : ts.length ≤ 65536) (hts : ∀ u ∈ ts, u.length ≤ 5 ∧ u.all tb = true) (hr : Row w v (textsV ts)) :
    Calls Try.prog 31 #[.string ⟨t.toArray⟩, v] w fun e w' => e = .returned (.bool (needB t ts)) ∧ Below w.heap.size w w' := by
  have HR := Lib.hid hr
  have HTS := Lib.hid hts
  obtain ⟨S, hS⟩ : ∃ S : ByteArray, S = ⟨t.toArray⟩ := ⟨_, rfl⟩
  have HS := Lib.hid (show S.data.toList = t by rw [hS])
  rw [← hS]
  obtain ⟨n, hn⟩ : ∃ n, n = S.size := ⟨_, rfl⟩
  have HNT := Lib.hid (show t.length = n by rw [hn, hS]; rfl)
  have hn5 : n ≤ 5 := by rw [← HNT.out]; exact ht
  have HB := Lib.hid (show S.data.toList.all tb = true by rw [hS]; exact htb)
  have hsn : S.size = n := hn.symm
  have h32 := pow_le32 n hn5
  have hp := wrap_pow n hn5
  obtain ⟨m, hm⟩ : ∃ m, 2 ^ n = m := ⟨_, rfl⟩
  rw [hm] at hp h32
  have HM := Lib.hid hm
  have HP := Lib.hid hp
  clear hS hn hr hts htb ht hm hp
  go_enter Try.func31, Try.ntmps31
  go_wp2_with fail
  rw [HP.out]
  go_loopw [9] (fun i wr => ∃ k : Nat, k ≤ m ∧ i = .int .i64 k ∧ Hid (∀ j, j < k → hasN t j = true → ts.any (hasN · j) = true) ∧ Below w.heap.size w wr) (fun i _ => m - (intOf i).toNat)
  case atStart => exact ⟨0, Nat.zero_le _, rfl, fun s hs => absurd hs (by omega), Below.refl _ _⟩
  case round =>
    obtain ⟨k, hk, rfl, hj, hB⟩ := hrel
    by_cases hlt : k < m
    · have hlt' : (k : Int) < (m : Int) := by omega
      go_wp2_with fail
      refine (hasStateI S k _ (by omega) (by omega) HB.out).mono ?_
      rw [HS.out]
      rintro e w1 ⟨rfl, hw1⟩
      have hb1 := below_draws2 hw1
      have hc1 : w1.cell? ⟨wr.heap.size, 0, none⟩ = some (.int .i64 (k : Int)) := by rw [hb1.cell (by simp), cell_of_row _ _ _ _ _ _ (heap_alloc_new _ _)]; rfl
      have hB1 : Below w.heap.size w w1 := (hB.alloc hB.size _).trans (hb1.mono (by have := hB.size; simp; omega))
      clear hw1 hB hb1
      cases hh : hasN t k
      · have HH := Lib.hid hh
        clear hh
        go_wp2_with fail
        go_roundw
        case rel =>
          refine ⟨k + 1, by omega, by go_num, fun j hjk hjt => ?_, hB1⟩
          rcases Nat.lt_or_ge j k with h | h
          · exact hj.out j h hjt
          · obtain rfl : j = k := by omega
            rw [HH.out] at hjt; cases hjt
        case measure => simp [intOf]; omega
      · have HH := Lib.hid hh
        clear hh
        go_wp2_with fail
        refine (containsFunc ts _ _ _ (hasN · k) _ (by omega) (HR.out.keep hB1) Try.call44 ?_).mono ?_
        · intro u hu w2 hb2
          exact needed1 wr.heap.size k u w2 (by omega) (HTS.out u hu).1 (HTS.out u hu).2 (by rw [hb2.cell (by exact block_lt_of_cell hc1)]; exact hc1)
        rintro e w2 ⟨rfl, hb2⟩
        have hB2 : Below w.heap.size w w2 := hB1.trans (hb2.mono hB1.size)
        clear hb2 hB1 hc1
        cases ha : ts.any (hasN · k)
        · have HV := Lib.hid (needB_true t ts k (by rw [HNT.out, HM.out]; exact hlt) HH.out ha)
          clear ha
          go_wp2_with fail
          go_ret
          exact ⟨ret_bool HV.out.symm, hB2⟩
        · have HA := Lib.hid ha
          clear ha
          go_wp2_with fail
          go_roundw
          case rel =>
            refine ⟨k + 1, by omega, by go_num, fun j hjk hjt => ?_, hB2⟩
            rcases Nat.lt_or_ge j k with h | h
            · exact hj.out j h hjt
            · obtain rfl : j = k := by omega
              exact HA.out
          case measure => simp [intOf]; omega
    · obtain rfl : k = m := by omega
      have HV := Lib.hid (needB_false t ts (fun j hjm => hj.out j (by rw [HNT.out, HM.out] at hjm; exact hjm)))
      go_wp2_with fail
      go_ret
      exact ⟨ret_bool HV.out.symm, hB⟩

end Go.Proofs.Ytnplaiolencgjaa
