/- Walks: the program's functions on tables. -/
import Derived.Test.YtjpkpdihldcdaaaWr
namespace Go.Proofs.Ytjpkpdihldcdaaa
set_option linter.unusedVariables false
set_option linter.unusedSimpArgs false
open Go.RowKit

theorem tableValidI (f : ByteArray) (w : World) (hs : f.size ≤ maxLen) :
    Calls Try.prog 15 #[.string f] w fun e w' => e = .returned (.bool (isTab f.data.toList)) ∧ Below w.heap.size w w' := by
  cases hb : isTab f.data.toList
  · have HV := Lib.hid (rt_no _ hb)
    clear hb
    go_enter Try.func15, Try.ntmps15
    go_wp2_with (first | (go_at_call 82; (with_reducible refine (readTable _ _ hs).mono ?_); rw [HV.out]; rintro e w1 ⟨rfl, hb1⟩) | ((with_reducible refine wpList_alloc_row 67 _ zeroT ?_); (try simp only [Act.put, List.setIfInBounds_toArray, List.set_cons_succ, List.set_cons_zero, World.size_alloc, Nat.add_assoc, Nat.reduceAdd])) | ((with_reducible refine wpList_storeT_new 67 _ _ (0) _ (fun _ => 0) _ _ _ ?_ ?_ infoT ?_); (first | rfl | simp [Act.eval, Act.put]); rfl; (try simp only [Act.put, List.setIfInBounds_toArray, List.set_cons_succ, List.set_cons_zero, World.size_alloc, Nat.add_assoc, Nat.reduceAdd])) | fail)
    go_ret
    exact ⟨rfl, hb1.alloc hb1.size _⟩
  · obtain ⟨n, h1, h5, hn, hlg, hz, hv⟩ := rt_yes _ hb
    have HV := Lib.hid hv
    clear hb hn hlg hz hv
    go_enter Try.func15, Try.ntmps15
    go_wp2_with (first | (go_at_call 82; (with_reducible refine (readTable _ _ hs).mono ?_); rw [HV.out]; rintro e w1 ⟨rfl, hb1⟩) | ((with_reducible refine wpList_alloc_row 67 _ zeroT ?_); (try simp only [Act.put, List.setIfInBounds_toArray, List.set_cons_succ, List.set_cons_zero, World.size_alloc, Nat.add_assoc, Nat.reduceAdd])) | ((with_reducible refine wpList_storeT_new 67 _ _ (n) _ (tv f.data.toList) _ _ _ ?_ ?_ infoT ?_); (first | rfl | simp [Act.eval, Act.put]); rfl; (try simp only [Act.put, List.setIfInBounds_toArray, List.set_cons_succ, List.set_cons_zero, World.size_alloc, Nat.add_assoc, Nat.reduceAdd])) | fail)
    go_ret
    exact ⟨rfl, hb1.alloc hb1.size _⟩

theorem inputsOfI (f : ByteArray) (w : World) (hs : f.size ≤ maxLen) :
    Calls Try.prog 16 #[.string f] w fun e w' => e = .returned (.int .i64 (inpL f.data.toList)) ∧ Below w.heap.size w w' := by
  cases hb : isTab f.data.toList
  · have HV := Lib.hid (rt_no _ hb)
    have HR := Lib.hid (inpL_no _ hb)
    clear hb
    go_enter Try.func16, Try.ntmps16
    go_wp2_with (first | (go_at_call 82; (with_reducible refine (readTable _ _ hs).mono ?_); rw [HV.out]; rintro e w1 ⟨rfl, hb1⟩) | ((with_reducible refine wpList_alloc_row 67 _ zeroT ?_); (try simp only [Act.put, List.setIfInBounds_toArray, List.set_cons_succ, List.set_cons_zero, World.size_alloc, Nat.add_assoc, Nat.reduceAdd])) | ((with_reducible refine wpList_storeT_new 67 _ _ (0) _ (fun _ => 0) _ _ _ ?_ ?_ infoT ?_); (first | rfl | simp [Act.eval, Act.put]); rfl; (try simp only [Act.put, List.setIfInBounds_toArray, List.set_cons_succ, List.set_cons_zero, World.size_alloc, Nat.add_assoc, Nat.reduceAdd])) | fail)
    go_ret
    exact ⟨ret_int HR.out.symm, hb1.alloc hb1.size _⟩
  · obtain ⟨n, h1, h5, hn, hlg, hz, hv⟩ := rt_yes _ hb
    have HV := Lib.hid hv
    have HR := Lib.hid ((inpL_yes' _ hb).trans (congrArg Int.ofNat hlg))
    have h0 := tcells_zero n (tv f.data.toList)
    clear hb hn hlg hz hv
    go_enter Try.func16, Try.ntmps16
    go_wp2_with (first | (go_at_call 82; (with_reducible refine (readTable _ _ hs).mono ?_); rw [HV.out]; rintro e w1 ⟨rfl, hb1⟩) | ((with_reducible refine wpList_alloc_row 67 _ zeroT ?_); (try simp only [Act.put, List.setIfInBounds_toArray, List.set_cons_succ, List.set_cons_zero, World.size_alloc, Nat.add_assoc, Nat.reduceAdd])) | ((with_reducible refine wpList_storeT_new 67 _ _ (n) _ (tv f.data.toList) _ _ _ ?_ ?_ infoT ?_); (first | rfl | simp [Act.eval, Act.put]); rfl; (try simp only [Act.put, List.setIfInBounds_toArray, List.set_cons_succ, List.set_cons_zero, World.size_alloc, Nat.add_assoc, Nat.reduceAdd])) | fail)
    go_ret
    exact ⟨ret_int HR.out.symm, hb1.alloc hb1.size _⟩

theorem valueAtI (f : ByteArray) (s : Int) (w : World) (hs : f.size ≤ maxLen) :
    Calls Try.prog 17 #[.string f, .int .i64 s] w fun e w' => e = .returned (.int .i64 (valL f.data.toList s)) ∧ Below w.heap.size w w' := by
  cases hb : isTab f.data.toList
  · have HV := Lib.hid (rt_no _ hb)
    have HR := Lib.hid (valL_no _ s (.inl hb))
    clear hb
    go_enter Try.func17, Try.ntmps17
    go_wp2_with (first | (go_at_call 82; (with_reducible refine (readTable _ _ hs).mono ?_); rw [HV.out]; rintro e w1 ⟨rfl, hb1⟩) | ((with_reducible refine wpList_alloc_row 67 _ zeroT ?_); (try simp only [Act.put, List.setIfInBounds_toArray, List.set_cons_succ, List.set_cons_zero, World.size_alloc, Nat.add_assoc, Nat.reduceAdd])) | ((with_reducible refine wpList_storeT_new 67 _ _ (0) _ (fun _ => 0) _ _ _ ?_ ?_ infoT ?_); (first | rfl | simp [Act.eval, Act.put]); rfl; (try simp only [Act.put, List.setIfInBounds_toArray, List.set_cons_succ, List.set_cons_zero, World.size_alloc, Nat.add_assoc, Nat.reduceAdd])) | fail)
    go_ret
    exact ⟨ret_int HR.out.symm, hb1.alloc hb1.size _⟩
  · obtain ⟨n, h1, h5, hn, hlg, hz, hv⟩ := rt_yes _ hb
    have HV := Lib.hid hv
    have hl32 : f.size ≤ 32 := by have := pow_le32 n h5; rw [hn] at this; exact this
    by_cases hr : 0 ≤ s ∧ s < f.size
    · obtain ⟨k, rfl⟩ := Int.eq_ofNat_of_zero_le hr.1
      have hk : k < f.size := by omega
      have HR := Lib.hid (valL_yes f.data.toList k hb hk)
      have HN := Lib.hid (show 2 ^ n = f.size from hn)
      have hk1 : decide ((k : Int) < 0) = false := by simp
      have hle := tv_le _ hz k
      have hk2 : decide ((f.size : Int) ≤ (k : Int)) = false := by simp; omega
      have h0 := tcells_succ n (tv f.data.toList) k (by omega)
      clear hb hn hlg hz hv hr
      go_enter Try.func17, Try.ntmps17
      go_wp2_with (first | (go_at_call 82; (with_reducible refine (readTable _ _ hs).mono ?_); rw [HV.out]; rintro e w1 ⟨rfl, hb1⟩) | ((with_reducible refine wpList_alloc_row 67 _ zeroT ?_); (try simp only [Act.put, List.setIfInBounds_toArray, List.set_cons_succ, List.set_cons_zero, World.size_alloc, Nat.add_assoc, Nat.reduceAdd])) | ((with_reducible refine wpList_storeT_new 67 _ _ (n) _ (tv f.data.toList) _ _ _ ?_ ?_ infoT ?_); (first | rfl | simp [Act.eval, Act.put]); rfl; (try simp only [Act.put, List.setIfInBounds_toArray, List.set_cons_succ, List.set_cons_zero, World.size_alloc, Nat.add_assoc, Nat.reduceAdd])) | ((with_reducible refine wpList_loadTg 67 _ (w1.heap.size) (n) (tv f.data.toList) 67 _ ?_ ?_ ?_ Try.underlying67 infoT ?_); rfl; rfl; exact (heap_alloc_new _ _); (try simp only [Act.put, List.setIfInBounds_toArray, List.set_cons_succ, List.set_cons_zero, World.size_alloc, Nat.add_assoc, Nat.reduceAdd])) | fail)
      refine (width n _ h5 _).mono ?_
      rw [HN.out]
      rintro e w2 ⟨rfl, hb2⟩
      have hc : w2.cell? ⟨w1.heap.size, 1 + k, none⟩ = some (.int .u8 ((tv f.data.toList k : Nat) : Int)) := by
        rw [hb2.cell (by simp), cell_of_row _ _ _ _ _ _ (heap_alloc_new _ _), h0]
      have hB : Below w.heap.size w w2 := (hb1.alloc hb1.size _).trans (hb2.mono (by have := hb1.size; simp; omega))
      clear hb2 hb1 h0
      go_wp2_with fail
      go_ret
      exact ⟨ret_int HR.out.symm, hB⟩
    · have HR := Lib.hid (valL_no f.data.toList s (.inr hr))
      have HN := Lib.hid (show 2 ^ n = f.size from hn)
      clear hb hn hlg hz hv
      by_cases h0 : s < 0
      · have hk1 : decide (s < 0) = true := by simpa using h0
        clear hr
        go_enter Try.func17, Try.ntmps17
        go_wp2_with (first | (go_at_call 82; (with_reducible refine (readTable _ _ hs).mono ?_); rw [HV.out]; rintro e w1 ⟨rfl, hb1⟩) | ((with_reducible refine wpList_alloc_row 67 _ zeroT ?_); (try simp only [Act.put, List.setIfInBounds_toArray, List.set_cons_succ, List.set_cons_zero, World.size_alloc, Nat.add_assoc, Nat.reduceAdd])) | ((with_reducible refine wpList_storeT_new 67 _ _ (n) _ (tv f.data.toList) _ _ _ ?_ ?_ infoT ?_); (first | rfl | simp [Act.eval, Act.put]); rfl; (try simp only [Act.put, List.setIfInBounds_toArray, List.set_cons_succ, List.set_cons_zero, World.size_alloc, Nat.add_assoc, Nat.reduceAdd])) | fail)
        go_ret
        exact ⟨ret_int HR.out.symm, hb1.alloc hb1.size _⟩
      · have hk1 : decide (s < 0) = false := by simpa using h0
        have hk2 : decide ((f.size : Int) ≤ s) = true := by simp; omega
        clear hr
        go_enter Try.func17, Try.ntmps17
        go_wp2_with (first | (go_at_call 82; (with_reducible refine (readTable _ _ hs).mono ?_); rw [HV.out]; rintro e w1 ⟨rfl, hb1⟩) | ((with_reducible refine wpList_alloc_row 67 _ zeroT ?_); (try simp only [Act.put, List.setIfInBounds_toArray, List.set_cons_succ, List.set_cons_zero, World.size_alloc, Nat.add_assoc, Nat.reduceAdd])) | ((with_reducible refine wpList_storeT_new 67 _ _ (n) _ (tv f.data.toList) _ _ _ ?_ ?_ infoT ?_); (first | rfl | simp [Act.eval, Act.put]); rfl; (try simp only [Act.put, List.setIfInBounds_toArray, List.set_cons_succ, List.set_cons_zero, World.size_alloc, Nat.add_assoc, Nat.reduceAdd])) | ((with_reducible refine wpList_loadTg 67 _ (w1.heap.size) (n) (tv f.data.toList) 67 _ ?_ ?_ ?_ Try.underlying67 infoT ?_); rfl; rfl; exact (heap_alloc_new _ _); (try simp only [Act.put, List.setIfInBounds_toArray, List.set_cons_succ, List.set_cons_zero, World.size_alloc, Nat.add_assoc, Nat.reduceAdd])) | fail)
        refine (width n _ h5 _).mono ?_
        rw [HN.out]
        rintro e w2 ⟨rfl, hb2⟩
        have hB : Below w.heap.size w w2 := (hb1.alloc hb1.size _).trans (hb2.mono (by have := hb1.size; simp; omega))
        clear hb2 hb1
        go_wp2_with fail
        go_ret
        exact ⟨ret_int HR.out.symm, hB⟩

end Go.Proofs.Ytjpkpdihldcdaaa
