/- Walks: a table is read. -/
import Derived.Test.YtnplaiolencgjaaWt
namespace Go.Proofs.Ytnplaiolencgjaa
set_option linter.unusedVariables false
set_option linter.unusedSimpArgs false
open Go.RowKit

theorem readTable1 (f : ByteArray) (s b : Nat) (hs : s < f.size) (hz : f.data.toList.all zb = true) (w : World) (hc : w.cell? ⟨b, 0, none⟩ = some (.string f)) :
    Calls Try.prog 36 #[.int .i64 (s : Int), .pointer (some ⟨b, 0, none⟩)] w fun e w' => e = .returned (.int .u8 ((tv f.data.toList s : Nat) : Int)) ∧ w = w' := by
  have hb := (zb_iff _).1 (List.all_eq_true.1 hz f[s] (List.getElem_mem (l := f.data.toList) (n := s) hs))
  have h1 : 48 ≤ (f[s].toNat : Int) := by omega
  have h2 : (f[s].toNat : Int) ≤ 49 := by omega
  have e : ((tv f.data.toList s : Nat) : Int) = (f[s].toNat : Int) - 48 := by
    unfold tv
    rw [List.getD_eq_getElem?_getD, List.getElem?_eq_getElem (show s < f.data.toList.length from hs)]
    simp only [Option.getD_some]
    show (((f[s]).toNat - 48 : Nat) : Int) = _
    omega
  have E := Lib.hid e
  clear hb e hz
  go_enter Try.func36, Try.ntmps36
  go_wp2
  go_ret
  exact ⟨ret_int E.out.symm, rfl⟩

set_option maxHeartbeats 400000 in
theorem readTable (f : ByteArray) (w : World) (hs : f.size ≤ maxLen) :
    Calls Try.prog 17 #[.string f] w fun e w' => e = .returned (rtV f.data.toList) ∧ Below w.heap.size w w' := by
  unfold maxLen at hs
  go_enter Try.func17, Try.ntmps17
  go_wp2_with (first
    | ((with_reducible refine wpList_alloc_row 38 _ zeroT ?_); (try simp only [Act.put, List.setIfInBounds_toArray, List.set_cons_succ, List.set_cons_zero, World.size_alloc, Nat.add_assoc, Nat.reduceAdd]))
    | fail)
  go_loopw [4] (fun i wr => ∃ k : Nat, 1 ≤ k ∧ k ≤ 6 ∧ i = .int .i64 k ∧ Hid (∀ j, 1 ≤ j → j < k → f.size ≠ 2 ^ j) ∧ Hid (wr.heap[w.heap.size]? = some (.cells #[.string f] 9 (0, 0))) ∧ Hid (wr.heap[w.heap.size + 1]? = some (.cells (tcells 0 (fun _ => 0)) 38 (0, 0))) ∧ Below w.heap.size w wr) (fun i _ => 6 - (intOf i).toNat)
  case atStart => exact ⟨1, by omega, by omega, rfl, fun j h1 h2 => by omega, heap_alloc2_old _ _ _, heap_alloc2_new _ _ _, ((Below.refl _ _).alloc (Nat.le_refl _) _).alloc (by simp) _⟩
  case round =>
    obtain ⟨k, h1, h6, rfl, hj, hF, hT, hB⟩ := hrel
    have hc := cell_of_one hF.out
    by_cases hlt : k ≤ 5
    · by_cases hk : f.size = 2 ^ k
      · have hne := ne_pow_false f.size k hlt hk
        have hK := Lib.hid hk
        clear hk
        go_wp2_with fail
        go_quiet (fail)
        have hFd : Hid ((wr.drewN nq).heap[w.heap.size]? = some (.cells #[.string f] 9 (0, 0))) := hF
        have hTd : Hid ((wr.drewN nq).heap[w.heap.size + 1]? = some (.cells (tcells 0 (fun _ => 0)) 38 (0, 0))) := hT
        have hBd : Below w.heap.size w (wr.drewN nq) := ⟨hB.os, hB.tape, hB.output, hB.size, hB.block⟩
        have hcd : (wr.drewN nq).cell? ⟨w.heap.size, 0, none⟩ = some (.string f) := hc
        clear hF hT hB hc hne
        generalize wr.drewN nq = wd at *
        have hd : decide ((k : Int) ≤ 5) = true := by simp; omega
        go_wp2_with fail
        go_loop [5] (fun i => ∃ j : Nat, j ≤ f.size ∧ i = .int .i64 j ∧ Hid ((f.data.toList.take j).all zb = true)) (fun i => f.size - (intOf i).toNat)
        case atStart => exact ⟨0, Nat.zero_le _, rfl, rfl⟩
        case round =>
          obtain ⟨j, hjl, rfl, ha⟩ := hrel
          by_cases hlt2 : j < f.size
          · cases hz : zb f[j]
            · have hz' : ¬ ((f[j].toNat : Int) = 48 ∨ (f[j].toNat : Int) = 49) := fun h => absurd ((zb_iff f[j]).2 h) (by simp [hz])
              have h48 : ((f[j].toNat : Int) != 48) = true := by rw [bne_iff_ne]; omega
              have h49 : ((f[j].toNat : Int) != 49) = true := by rw [bne_iff_ne]; omega
              have HZ := Lib.hid (rtV_bad _ (all_false_at f.data.toList zb j hlt2 hz))
              clear hz' hz
              go_wp2_with (first
                | ((with_reducible refine wpList_build0 38 (tcells 0 (fun _ => 0)) build_0 ?_); (try simp only [Act.put, List.setIfInBounds_toArray, List.set_cons_succ, List.set_cons_zero, World.size_alloc, Nat.add_assoc, Nat.reduceAdd]))
                | ((with_reducible refine wpList_storeT 38 _ _ (w.heap.size + 1) (0) (0) (fun _ => 0) (fun _ => 0) 38 ?_ ?_ ?_ infoT ?_); rfl; rfl; exact (hTd.out); (try simp only [Act.put, List.setIfInBounds_toArray, List.set_cons_succ, List.set_cons_zero, World.size_alloc, Nat.add_assoc, Nat.reduceAdd]))
                | fail)
              refine bodyPost_ret (results_T_tmp rfl _ _ (w.heap.size + 1) _ _ _ _ rfl (setRow_heap _ _ _ _ _ _ hTd.out) Try.underlying38 infoT) rfl ?_
              exact ⟨by rw [HZ.out]; rfl, below_setRow0 hBd (by omega) _⟩
            · have hz' := (zb_iff f[j]).1 hz
              have HA := Lib.hid (all_take_succ f.data.toList zb j hlt2 ha.out hz)
              cases h48 : ((f[j].toNat : Int) != 48)
              · clear hz' hz
                go_wp2_with fail
                go_round
                case rel => exact ⟨j + 1, by omega, by go_num, HA⟩
                case measure => simp [intOf]; omega
              · have h49 : ((f[j].toNat : Int) != 49) = false := by rw [bne_iff_ne] at h48; rw [bne_eq_false_iff_eq]; omega
                clear hz' hz
                go_wp2_with fail
                go_round
                case rel => exact ⟨j + 1, by omega, by go_num, HA⟩
                case measure => simp [intOf]; omega
          · have hall := all_true_take _ _ _ ha.out (show f.data.toList.length ≤ j by show f.size ≤ j; omega)
            have HV := Lib.hid (rtV_good f.data.toList k h1 hlt hK.out hall)
            have HC : Fv wd 36 #[.pointer (some ⟨w.heap.size, 0, none⟩)] f.size (tv f.data.toList) := by
              intro s hsz w1 hb1
              refine (readTable1 f s w.heap.size hsz hall w1 ((hb1.cell (p := ⟨w.heap.size, 0, none⟩) (lt_of_block hFd.out)).trans hcd)).mono ?_
              rintro e w2 ⟨rfl, rfl⟩
              exact ⟨rfl, Below.refl _ _⟩
            have HD := Lib.hid HC
            clear hall HC
            go_wp2_with fail
            refine (each k f.size _ _ (tv f.data.toList) hlt hK.out.symm wd Try.call36 HD.out).mono ?_
            rintro e w2 ⟨rfl, hb2⟩
            have hT2 : Hid (w2.heap[w.heap.size + 1]? = some (.cells (tcells 0 (fun _ => 0)) 38 (0, 0))) := (hb2.block _ (lt_of_block hTd.out)).trans hTd.out
            have hB2 : Below w.heap.size w w2 := hBd.trans (hb2.mono hBd.size)
            clear HD hb2
            go_wp2_with (first
              | ((with_reducible refine wpList_storeT 38 _ _ (w.heap.size + 1) (k) (0) (upto f.size (tv f.data.toList)) (fun _ => 0) 38 ?_ ?_ ?_ infoT ?_); rfl; rfl; exact (hT2.out); (try simp only [Act.put, List.setIfInBounds_toArray, List.set_cons_succ, List.set_cons_zero, World.size_alloc, Nat.add_assoc, Nat.reduceAdd]))
              | fail)
            refine bodyPost_ret (results_T_tmp rfl _ _ (w.heap.size + 1) _ _ _ _ rfl (setRow_heap _ _ _ _ _ _ hT2.out) Try.underlying38 infoT) rfl ?_
            exact ⟨by rw [HV.out]; rfl, below_setRow0 hB2 (by omega) _⟩
      · have hne := ne_pow_true f.size k hlt hk
        have hK := Lib.hid hk
        clear hk
        go_wp2_with fail
        go_quiet (fail)
        go_wp2_with fail
        go_roundw
        case rel =>
          refine ⟨k + 1, by omega, by omega, by go_num, fun j a b => ?_, hF, hT, ⟨hB.os, hB.tape, hB.output, hB.size, hB.block⟩⟩
          rcases Nat.lt_or_ge j k with h | h
          · exact hj.out j a h
          · obtain rfl : j = k := by omega
            exact hK.out
        case measure => simp [intOf]; omega
    · go_wp2_with (first
        | ((with_reducible refine wpList_build0 38 (tcells 0 (fun _ => 0)) build_0 ?_); (try simp only [Act.put, List.setIfInBounds_toArray, List.set_cons_succ, List.set_cons_zero, World.size_alloc, Nat.add_assoc, Nat.reduceAdd]))
        | ((with_reducible refine wpList_storeT 38 _ _ (w.heap.size + 1) (0) (0) (fun _ => 0) (fun _ => 0) 38 ?_ ?_ ?_ infoT ?_); rfl; rfl; exact (hT.out); (try simp only [Act.put, List.setIfInBounds_toArray, List.set_cons_succ, List.set_cons_zero, World.size_alloc, Nat.add_assoc, Nat.reduceAdd]))
        | fail)
      refine bodyPost_ret (results_T_tmp rfl _ _ (w.heap.size + 1) _ _ _ _ rfl (setRow_heap _ _ _ _ _ _ hT.out) Try.underlying38 infoT) rfl ?_
      refine ⟨?_, below_setRow0 hB (by omega) _⟩
      rw [rtV_none _ (lgN_none _ (fun j a b => hj.out j a (by omega)))]
      rfl
end Go.Proofs.Ytnplaiolencgjaa
