/- Walks: what the reference says is needed. -/
import Derived.Test.YtnplaiolencgjaaWp
namespace Go.Proofs.Ytnplaiolencgjaa
set_option linter.unusedVariables false
set_option linter.unusedSimpArgs false
open Go.RowKit

theorem l2CoveredS (ts : List (List UInt8)) (b off c i s n : Nat) (w : World) (hn : ts.length = n) (hl : n ≤ 65536) (hi : i ≤ 65536) (hs : s ≤ 65536) (hts : ∀ u ∈ ts, u.length ≤ 5 ∧ u.all tb = true) (hbl : b < w.heap.size) (hc : ∀ j t, ts[j]? = some t → w.cell? ⟨b, off + j, none⟩ = some (.string ⟨t.toArray⟩)) :
    Calls Try.prog 47 #[.slice (some ⟨b, off, none⟩) n c, .int .i64 (i : Int), .int .i64 (s : Int)] w fun e w' => e = .returned (.bool ((wout ts i).any (hasN · s))) ∧ Below w.heap.size w w' := by
  have HN := Lib.hid hn
  have HTS := Lib.hid hts
  have HC := Lib.hid hc
  clear hn hts hc
  go_enter Try.func47, Try.ntmps47
  go_wp2_with fail
  go_loopw [7] (fun j wr => ∃ k : Nat, k ≤ n ∧ j = .int .i64 k ∧ Hid (∀ j t, j < k → j ≠ i → ts[j]? = some t → hasN t s = false) ∧ Below w.heap.size w wr) (fun j _ => n - (intOf j).toNat)
  case atStart => exact ⟨0, Nat.zero_le _, rfl, fun s t hs => absurd hs (by omega), Below.refl _ _⟩
  case round =>
    obtain ⟨k, hk, rfl, hj, hB⟩ := hrel
    by_cases hlt : k < n
    · by_cases hki : k = i
      · subst hki
        go_wp2_with fail
        go_roundw
        case rel =>
          refine ⟨k + 1, by omega, by go_num, fun j t hjk hne ht => ?_, hB⟩
          exact hj.out j t (by omega) hne ht
        case measure => simp [intOf]; omega
      · obtain ⟨t, ht⟩ : ∃ t, ts[k]? = some t := ⟨_, List.getElem?_eq_getElem (by rw [HN.out]; exact hlt)⟩
        have hcell : wr.cell? ⟨b, off + k, none⟩ = some (.string ⟨t.toArray⟩) := (hB.cell (p := ⟨b, off + k, none⟩) hbl).trans (HC.out k t ht)
        obtain ⟨S, hS⟩ : ∃ S : ByteArray, S = ⟨t.toArray⟩ := ⟨_, rfl⟩
        rw [← hS] at hcell
        have htl : S.size ≤ 5 := by rw [hS]; exact (HTS.out t (List.mem_of_getElem? ht)).1
        have HTb := Lib.hid (show S.data.toList.all tb = true by rw [hS]; exact (HTS.out t (List.mem_of_getElem? ht)).2)
        have HSL := Lib.hid (show S.data.toList = t by rw [hS])
        have HT := Lib.hid ht
        have HKI := Lib.hid hki
        have h1 : ((k : Int) != (i : Int)) = true := by simp; omega
        clear hS ht
        go_wp2_with fail
        refine (l2HasS S s _ htl hs HTb.out).mono ?_
        rw [HSL.out]
        rintro e w3 ⟨rfl, hw3⟩
        have hb3 := below_draws2 hw3
        have hB3 : Below w.heap.size w w3 := hB.trans (hb3.mono hB.size)
        clear hw3 hb3 hB hcell
        cases hh : hasN t s
        · have HH := Lib.hid hh
          clear hh
          go_wp2_with fail
          go_roundw
          case rel =>
            refine ⟨k + 1, by omega, by go_num, fun j u hjk hne hu => ?_, hB3⟩
            rcases Nat.lt_or_ge j k with h | h
            · exact hj.out j u h hne hu
            · obtain rfl : j = k := by omega
              have e := HT.out.symm.trans hu
              injection e with e
              subst e
              exact HH.out
          case measure => simp [intOf]; omega
        · have HV := Lib.hid ((wout_any ts i s).2 ⟨k, t, hki, HT.out, hh⟩)
          clear hh
          go_wp2_with fail
          go_ret
          exact ⟨ret_bool HV.out.symm, hB3⟩
    · obtain rfl : k = n := by omega
      have HV := Lib.hid (show (wout ts i).any (hasN · s) = false by
        cases h : (wout ts i).any (hasN · s) with
        | false => rfl
        | true =>
          obtain ⟨j, t, hne, ht, hh⟩ := (wout_any ts i s).1 h
          have hlt : j < k := by
            have := (List.getElem?_eq_some_iff.1 ht).1
            rw [HN.out] at this; exact this
          rw [hj.out j t hlt hne ht] at hh
          cases hh)
      go_wp2_with fail
      go_ret
      exact ⟨ret_bool HV.out.symm, hB⟩

theorem l2NeededS (f : ByteArray) (t : List UInt8) (ts : List (List UInt8)) (b off c i n : Nat) (w : World) (hf : f.size = 2 ^ t.length) (hit : ts[i]? = some t) (hn : ts.length = n) (hl : n ≤ 65536) (hts : ∀ u ∈ ts, u.length ≤ 5 ∧ u.all tb = true) (hbl : b < w.heap.size) (hc : ∀ j t, ts[j]? = some t → w.cell? ⟨b, off + j, none⟩ = some (.string ⟨t.toArray⟩)) :
    Calls Try.prog 33 #[.string f, .slice (some ⟨b, off, none⟩) n c, .int .i64 (i : Int)] w fun e w' => e = .returned (.bool (needB t (wout ts i))) ∧ Below w.heap.size w w' := by
  have HN := Lib.hid hn
  have hin : i < n := by rw [← hn]; exact (List.getElem?_eq_some_iff.1 hit).1
  have HTS := Lib.hid hts
  have HC := Lib.hid hc
  have HF := Lib.hid hf
  have hcell := hc i t hit
  obtain ⟨S, hS⟩ : ∃ S : ByteArray, S = ⟨t.toArray⟩ := ⟨_, rfl⟩
  rw [← hS] at hcell
  have htl : S.size ≤ 5 := by rw [hS]; exact (hts t (List.mem_of_getElem? hit)).1
  have HTb := Lib.hid (show S.data.toList.all tb = true by rw [hS]; exact (hts t (List.mem_of_getElem? hit)).2)
  have HSL := Lib.hid (show S.data.toList = t by rw [hS])
  have h32 : f.size ≤ 32 := by rw [hf]; exact pow_le32 _ (hts t (List.mem_of_getElem? hit)).1
  have HCell := Lib.hid hcell
  clear hn hts hc hf hS hit hcell
  go_enter Try.func33, Try.ntmps33
  go_wp2_with fail
  go_loopw [7] (fun j wr => ∃ k : Nat, k ≤ f.size ∧ j = .int .i64 k ∧ Hid (∀ j, j < k → hasN t j = true → (wout ts i).any (hasN · j) = true) ∧ Below w.heap.size w wr) (fun j _ => f.size - (intOf j).toNat)
  case atStart => exact ⟨0, Nat.zero_le _, rfl, fun s hs => absurd hs (by omega), Below.refl _ _⟩
  case round =>
    obtain ⟨k, hk, rfl, hj, hB⟩ := hrel
    by_cases hlt : k < f.size
    · have hcell : wr.cell? ⟨b, off + i, none⟩ = some (.string S) := (hB.cell (p := ⟨b, off + i, none⟩) hbl).trans HCell.out
      go_wp2_with fail
      refine (l2HasS S k _ htl (by omega) HTb.out).mono ?_
      rw [HSL.out]
      rintro e w3 ⟨rfl, hw3⟩
      have hb3 := below_draws2 hw3
      have hB3 : Below w.heap.size w w3 := hB.trans (hb3.mono hB.size)
      clear hw3 hb3 hB hcell
      cases hh : hasN t k
      · have HH := Lib.hid hh
        clear hh
        go_wp2_with fail
        go_roundw
        case rel =>
          refine ⟨k + 1, by omega, by go_num, fun j hjk hjt => ?_, hB3⟩
          rcases Nat.lt_or_ge j k with h | h
          · exact hj.out j h hjt
          · obtain rfl : j = k := by omega
            rw [HH.out] at hjt; cases hjt
        case measure => simp [intOf]; omega
      · have HH := Lib.hid hh
        clear hh
        go_wp2_with fail
        refine (l2CoveredS ts b off c i k n _ HN.out hl (by omega) (by omega) HTS.out (Nat.lt_of_lt_of_le hbl hB3.size) (fun j u hu => (hB3.cell (p := ⟨b, off + j, none⟩) hbl).trans (HC.out j u hu))).mono ?_
        rintro e w4 ⟨rfl, hb4⟩
        have hB4 : Below w.heap.size w w4 := hB3.trans (hb4.mono hB3.size)
        clear hb4 hB3
        cases ha : (wout ts i).any (hasN · k)
        · have HV := Lib.hid (needB_true t (wout ts i) k (by rw [← HF.out]; exact hlt) HH.out ha)
          clear ha
          go_wp2_with fail
          go_ret
          exact ⟨ret_bool HV.out.symm, hB4⟩
        · have HA := Lib.hid ha
          clear ha
          go_wp2_with fail
          go_roundw
          case rel =>
            refine ⟨k + 1, by omega, by go_num, fun j hjk hjt => ?_, hB4⟩
            rcases Nat.lt_or_ge j k with h | h
            · exact hj.out j h hjt
            · obtain rfl : j = k := by omega
              exact HA.out
          case measure => simp [intOf]; omega
    · obtain rfl : k = f.size := by omega
      have HV := Lib.hid (needB_false t (wout ts i) (fun j hjm => hj.out j (by rw [← HF.out] at hjm; exact hjm)))
      go_wp2_with fail
      go_ret
      exact ⟨ret_bool HV.out.symm, hB⟩

end Go.Proofs.Ytnplaiolencgjaa
