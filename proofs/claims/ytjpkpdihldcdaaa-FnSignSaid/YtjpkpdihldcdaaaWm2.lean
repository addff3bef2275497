/- Walks: the inputs that matter. -/
import Derived.Test.YtjpkpdihldcdaaaWs5
import Derived.Test.YtjpkpdihldcdaaaWi5
import Derived.Test.YtjpkpdihldcdaaaWq
namespace Go.Proofs.Ytjpkpdihldcdaaa
set_option linter.unusedVariables false
set_option linter.unusedSimpArgs false
open Go.RowKit

theorem l1MattersS (f : ByteArray) (n : Nat) (w : World) (hf : f.size ≤ maxLen) (h1 : 1 ≤ n) (h5 : n ≤ 5) (hn : 2 ^ n = f.size) (hz : f.data.toList.all zb = true) :
    Calls Try.prog 120 #[.string f] w fun e w' => (∃ v, e = .returned v ∧ Res w' w.heap.size 3 v (natsV (matK (tv f.data.toList) f.size n))) ∧ Below w.heap.size w w' := by
  have HZ := Lib.hid hz
  have HN := Lib.hid hn
  have HI := Lib.hid (show inpN f.size = (n : Int) from inpN_pow _ n h1 h5 hn.symm)
  clear hz hn
  go_enter Try.func120, Try.ntmps120
  go_wp2_with (first | ((with_reducible refine wpList_empty 44 3 (.int .i64 0) 8 Try.underlying44 infoI ?_); intro w1 hown1 hg1 hz1; (try simp only [Act.put, List.setIfInBounds_toArray, List.set_cons_succ, List.set_cons_zero, World.size_alloc, Nat.add_assoc, Nat.reduceAdd])) | fail)
  go_loopw [3, 4] (fun v j wr => ∃ k : Nat, k ≤ n ∧ j = .int .i64 k ∧ wr.ownsRow w.heap.size 3 1 v (matK (tv f.data.toList) f.size k).length (natsV (matK (tv f.data.toList) f.size k)) ∧ Below w.heap.size w wr) (fun _ j _ => n - (intOf j).toNat)
  case atStart => exact ⟨0, Nat.zero_le _, rfl, hown1, (Below.refl _ _).grown hg1 (Nat.le_refl _) (fun k hk => by cases hk)⟩
  case round =>
    clear hown1 hg1 hz1
    obtain ⟨k, hk, rfl, hown, hB⟩ := hrel
    by_cases hlt : k < n
    · have hml := matK_len (tv f.data.toList) f.size k
      have MS := Lib.hid (matK_succ (tv f.data.toList) f.size k)
      have SZ := Lib.hid (sgN_zero (upB (tv f.data.toList) f.size k) (dnB (tv f.data.toList) f.size k))
      go_wp2_with fail
      refine (l1InputsS _ _ hf).mono ?_
      rw [HI.out]
      rintro e w' ⟨rfl, rfl⟩
      go_wp2_with fail
      refine (l1SignS f n k _ h5 HN.out hlt HZ.out).mono ?_
      rintro e w' ⟨rfl, rfl⟩
      cases hmb : matB (tv f.data.toList) f.size k
      · have hd : decide (0 < sgN (upB (tv f.data.toList) f.size k) (dnB (tv f.data.toList) f.size k)) = false := SZ.out.trans hmb
        have HMB := Lib.hid hmb
        clear hmb
        generalize sgN (upB (tv f.data.toList) f.size k) (dnB (tv f.data.toList) f.size k) = x at *
        go_wp2_with fail
        go_roundw
        case rel => exact ⟨k + 1, by omega, by go_num, by rw [MS.out, HMB.out]; simpa using hown, hB⟩
        case measure => simp [intOf]; omega
      · have hd : decide (0 < sgN (upB (tv f.data.toList) f.size k) (dnB (tv f.data.toList) f.size k)) = true := SZ.out.trans hmb
        have HMB := Lib.hid hmb
        clear hmb
        generalize sgN (upB (tv f.data.toList) f.size k) (dnB (tv f.data.toList) f.size k) = x at *
        go_wp2_with (first | ((with_reducible refine wpList_push 44 3 _ _ (w.heap.size) ((matK (tv f.data.toList) f.size k).length) 8 (u3) (.int .i64 (k : Int)) (.int .i64 0) (_) Try.underlying44 infoI rfl rfl rfl ?_ ?_ ?_ (hown) (hB.size) (by omega) (by decide) ?_); rfl; rfl; rfl; intro v2 w2 hown2 hg2 hat2 hbel2; (try simp only [Act.put, List.setIfInBounds_toArray, List.set_cons_succ, List.set_cons_zero, World.size_alloc, Nat.add_assoc, Nat.reduceAdd])) | fail)
        go_roundw
        case rel => exact ⟨k + 1, by omega, by go_num, by rw [MS.out, HMB.out, if_pos rfl, List.length_append]; simpa [natsV] using hown2, below_grown hB hbel2 (Nat.le_refl _)⟩
        case measure => simp [intOf]; omega
    · obtain rfl : k = n := by omega
      go_wp2_with fail
      refine (l1InputsS _ _ hf).mono ?_
      rw [HI.out]
      rintro e w' ⟨rfl, rfl⟩
      go_wp2_with fail
      go_ret
      exact ⟨⟨_, rfl, Res.of_own hown⟩, hB⟩

theorem mattersInS (f : ByteArray) (w : World) (hf : f.size ≤ maxLen) :
    Calls Try.prog 56 #[.string f] w fun e w' => (∃ v, e = .returned v ∧ Res w' w.heap.size 3 v (natsV (matL f.data.toList))) ∧ Below w.heap.size w w' := by
  cases h1 : isTab f.data.toList
  · have H := Lib.hid (show matL f.data.toList = [] by unfold matL; rw [h1]; rfl)
    go_enter Try.func56, Try.ntmps56
    go_wp2_with fail
    refine (tableValidS _ _ hf).mono ?_
    rw [h1]
    rintro e w' ⟨rfl, rfl⟩
    go_wp2_with (first | ((with_reducible refine wpList_empty 44 3 (.int .i64 0) 8 Try.underlying44 infoI ?_); intro w1 hown1 hg1 hz1; (try simp only [Act.put, List.setIfInBounds_toArray, List.set_cons_succ, List.set_cons_zero, World.size_alloc, Nat.add_assoc, Nat.reduceAdd])) | fail)
    go_ret
    exact ⟨⟨_, rfl, by rw [H.out]; exact Res.of_own hown1⟩, (Below.refl _ _).grown hg1 (Nat.le_refl _) (fun k hk => by cases hk)⟩
  · obtain ⟨n, g1, g5, hn, hlg, hz, hv⟩ := rt_yes _ h1
    have H := Lib.hid (show matL f.data.toList = matK (tv f.data.toList) f.size n by unfold matL; rw [h1, hlg]; rfl)
    have HZ := Lib.hid hz
    have HN := Lib.hid (show 2 ^ n = f.size from hn)
    clear hn hlg hz hv
    go_enter Try.func56, Try.ntmps56
    go_wp2_with fail
    refine (tableValidS _ _ hf).mono ?_
    rw [h1]
    rintro e w' ⟨rfl, rfl⟩
    go_wp2_with fail
    refine (l1MattersS f n _ hf g1 g5 HN.out HZ.out).mono ?_
    rintro e w1 ⟨⟨v, rfl, hr⟩, hb1⟩
    go_wp2_with fail
    go_ret
    exact ⟨⟨_, rfl, by rw [H.out]; exact hr⟩, hb1⟩

theorem mattersInI (f : ByteArray) (w : World) (hs : f.size ≤ maxLen) :
    Calls Try.prog 54 #[.string f] w fun e w' => (∃ v, e = .returned v ∧ Res w' w.heap.size 3 v (natsV (matL f.data.toList))) ∧ Below w.heap.size w w' := by
  cases hb : isTab f.data.toList
  · have HV := Lib.hid (rt_no _ hb)
    have H := Lib.hid (show matL f.data.toList = [] by unfold matL; rw [hb]; rfl)
    clear hb
    go_enter Try.func54, Try.ntmps54
    go_wp2_with (first | (go_at_call 82; (with_reducible refine (readTable _ _ hs).mono ?_); rw [HV.out]; rintro e w1 ⟨rfl, hb1⟩) | ((with_reducible refine wpList_alloc_row 67 _ zeroT ?_); (try simp only [Act.put, List.setIfInBounds_toArray, List.set_cons_succ, List.set_cons_zero, World.size_alloc, Nat.add_assoc, Nat.reduceAdd])) | ((with_reducible refine wpList_storeT_new 67 _ _ (0) _ (fun _ => 0) _ _ _ ?_ ?_ infoT ?_); (first | rfl | simp [Act.eval, Act.put]); rfl; (try simp only [Act.put, List.setIfInBounds_toArray, List.set_cons_succ, List.set_cons_zero, World.size_alloc, Nat.add_assoc, Nat.reduceAdd])) | fail)
    refine wp_loop_rounds 1 ?_
    rw [rounds_succ]
    go_wp2_with fail
    go_ret
    exact ⟨⟨_, rfl, by rw [H.out]; exact Res.none_ _ _ _⟩, hb1.alloc hb1.size _⟩
  · obtain ⟨n, h1, h5, hn, hlg, hz, hv⟩ := rt_yes _ hb
    have H := Lib.hid (show matL f.data.toList = matK (tv f.data.toList) f.size n by unfold matL; rw [hb, hlg]; rfl)
    have HV := Lib.hid hv
    have h0 := tcells_zero n (tv f.data.toList)
    have HZ := Lib.hid (tv_le _ hz)
    have HN := Lib.hid (show 2 ^ n = f.size from hn)
    clear hb hn hlg hz hv
    go_enter Try.func54, Try.ntmps54
    go_wp2_with (first | (go_at_call 82; (with_reducible refine (readTable _ _ hs).mono ?_); rw [HV.out]; rintro e w1 ⟨rfl, hb1⟩) | ((with_reducible refine wpList_alloc_row 67 _ zeroT ?_); (try simp only [Act.put, List.setIfInBounds_toArray, List.set_cons_succ, List.set_cons_zero, World.size_alloc, Nat.add_assoc, Nat.reduceAdd])) | ((with_reducible refine wpList_storeT_new 67 _ _ (n) _ (tv f.data.toList) _ _ _ ?_ ?_ infoT ?_); (first | rfl | simp [Act.eval, Act.put]); rfl; (try simp only [Act.put, List.setIfInBounds_toArray, List.set_cons_succ, List.set_cons_zero, World.size_alloc, Nat.add_assoc, Nat.reduceAdd])) | fail)
    go_loopw [5, 6] (fun v j wr => ∃ k : Nat, k ≤ n ∧ j = .int .i64 k ∧ wr.ownsRow (w1.heap.size + 1) 3 1 v (matK (tv f.data.toList) f.size k).length (natsV (matK (tv f.data.toList) f.size k)) ∧ Below w.heap.size w wr ∧ Hid (wr.heap[w1.heap.size]? = some (.cells (tcells n (tv f.data.toList)) 67 (0, 0))) ∧ w1.heap.size + 1 ≤ wr.heap.size) (fun _ j _ => n - (intOf j).toNat)
    case atStart => exact ⟨0, Nat.zero_le _, rfl, World.ownsRow_nil _ _ _ _, hb1.alloc hb1.size _, heap_alloc_new _ _, by simp⟩
    case round =>
      have hw1 := hb1.size
      clear hb1
      obtain ⟨k, hk, rfl, hown, hB, hT, hsz⟩ := hrel
      have hc0 : wr.cell? ⟨w1.heap.size, 0, none⟩ = some (.int .i64 (n : Int)) := by rw [cell_of_row _ _ _ _ _ _ hT.out]; exact h0
      by_cases hlt : k < n
      · have hml := matK_len (tv f.data.toList) f.size k
        have MS := Lib.hid (matK_succ (tv f.data.toList) f.size k)
        have SZ := Lib.hid (sgB_zero (upB (tv f.data.toList) f.size k) (dnB (tv f.data.toList) f.size k))
        go_wp2_with (first | ((with_reducible refine wpList_loadT 67 _ (w1.heap.size) (n) (tv f.data.toList) 67 _ ?_ ?_ Try.underlying67 infoT ?_); rfl; exact (hT.out); (try simp only [Act.put, List.setIfInBounds_toArray, List.set_cons_succ, List.set_cons_zero, World.size_alloc, Nat.add_assoc, Nat.reduceAdd])) | fail)
        refine (signI n f.size k _ _ h5 HN.out hlt HZ.out).mono ?_
        rintro e w2 ⟨rfl, hb2⟩
        have hT2 : Hid (w2.heap[w1.heap.size]? = some (.cells (tcells n (tv f.data.toList)) 67 (0, 0))) := (hb2.block _ (lt_of_block hT.out)).trans hT.out
        have hownb := own_below hown hb2
        have hB2 : Below w.heap.size w w2 := hB.trans (hb2.mono hB.size)
        have hsz2 : w1.heap.size + 1 ≤ w2.heap.size := Nat.le_trans hsz hb2.size
        clear hb2 hown hB hT hc0
        cases hmb : matB (tv f.data.toList) f.size k
        · have hd := SZ.out
          rw [show (upB (tv f.data.toList) f.size k || dnB (tv f.data.toList) f.size k) = false from hmb] at hd
          have HMB := Lib.hid hmb
          clear hmb
          generalize sgB (upB (tv f.data.toList) f.size k) (dnB (tv f.data.toList) f.size k) = x at *
          obtain rfl : x = 48 := by simpa using hd
          go_wp2_with fail
          go_roundw
          case rel => exact ⟨k + 1, by omega, by go_num, by rw [MS.out, HMB.out]; simpa using hownb, hB2, hT2, hsz2⟩
          case measure => simp [intOf]; omega
        · have hd := SZ.out
          rw [show (upB (tv f.data.toList) f.size k || dnB (tv f.data.toList) f.size k) = true from hmb] at hd
          have HMB := Lib.hid hmb
          clear hmb
          generalize sgB (upB (tv f.data.toList) f.size k) (dnB (tv f.data.toList) f.size k) = x at *
          have hx : (x == 48) = false := by simpa using hd
          clear hd
          go_wp2_with (first | ((with_reducible refine wpList_push 44 3 _ _ (w1.heap.size + 1) ((matK (tv f.data.toList) f.size k).length) 8 (u5) (.int .i64 (k : Int)) (.int .i64 0) (_) Try.underlying44 infoI rfl rfl rfl ?_ ?_ ?_ (hownb) (hsz2) (by omega) (by decide) ?_); rfl; rfl; rfl; intro v2 w2 hown2 hg2 hat2 hbel2; (try simp only [Act.put, List.setIfInBounds_toArray, List.set_cons_succ, List.set_cons_zero, World.size_alloc, Nat.add_assoc, Nat.reduceAdd])) | fail)
          go_roundw
          case rel => exact ⟨k + 1, by omega, by go_num, by rw [MS.out, HMB.out, if_pos rfl, List.length_append]; simpa [natsV] using hown2, below_grown hB2 hbel2 (by omega), (hbel2.block _ (by omega)).trans hT2.out, Nat.le_trans hsz2 hbel2.size⟩
          case measure => simp [intOf]; omega
      · obtain rfl : k = n := by omega
        go_wp2_with fail
        go_ret
        exact ⟨⟨_, rfl, by rw [H.out]; exact (Res.of_own hown).mono (by omega)⟩, hB⟩

end Go.Proofs.Ytjpkpdihldcdaaa
