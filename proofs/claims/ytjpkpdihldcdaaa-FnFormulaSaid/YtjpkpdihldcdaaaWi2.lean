/- Walks: the program's functions that make tables. -/
import Derived.Test.YtjpkpdihldcdaaaWi
namespace Go.Proofs.Ytjpkpdihldcdaaa
set_option linter.unusedVariables false
set_option linter.unusedSimpArgs false
open Go.RowKit

theorem constantTable1 (v b s : Nat) (w : World) (hv : v ≤ 1) (hc : w.cell? ⟨b, 0, none⟩ = some (.int .i64 (v : Int))) :
    Calls Try.prog 102 #[.int .i64 (s : Int), .pointer (some ⟨b, 0, none⟩)] w fun e w' => e = .returned (.int .u8 (v : Int)) ∧ w = w' := by
  go_enter Try.func102, Try.ntmps102
  go_wp2
  go_ret
  exact ⟨ret_int (by omega), rfl⟩

theorem inputTable1 (s i b : Nat) (w : World) (hs : s ≤ 65536) (hi : i ≤ 60) (hc : w.cell? ⟨b, 0, none⟩ = some (.int .i64 (i : Int))) :
    Calls Try.prog 117 #[.int .i64 (s : Int), .pointer (some ⟨b, 0, none⟩)] w fun e w' => e = .returned (.int .u8 ((bitN s i : Nat) : Int)) ∧ w = w' := by
  have E := Lib.hid (bit_and s i (by omega))
  have h1 := bitN_le s i
  go_enter Try.func117, Try.ntmps117
  go_wp2
  go_ret
  exact ⟨ret_int (by rw [E.out]; omega), rfl⟩

theorem constantTableI (n v : Int) (w : World) :
    Calls Try.prog 34 #[.int .i64 n, .int .i64 v] w fun e w' => e = .returned (.tuple #[.string (strI (constOk n v) (constL n.toNat v.toNat)), .bool (constOk n v)]) ∧ Below w.heap.size w w' := by
  by_cases hok : (1 ≤ n ∧ n ≤ 5) ∧ (0 ≤ v ∧ v ≤ 1)
  · have H := Lib.hid (show constOk n v = true by unfold constOk; simp; omega)
    obtain ⟨n, rfl⟩ := Int.eq_ofNat_of_zero_le (show 0 ≤ n by omega)
    obtain ⟨v, rfl⟩ := Int.eq_ofNat_of_zero_le (show 0 ≤ v by omega)
    have h1 : 1 ≤ n := by omega
    have h5 : n ≤ 5 := by omega
    have hv : v ≤ 1 := by omega
    have d1 : decide ((n : Int) < 1) = false := by simp; omega
    have d2 : decide ((5 : Int) < (n : Int)) = false := by simp; omega
    have d3 : decide ((v : Int) < 0) = false := by simp
    have d4 : decide ((1 : Int) < (v : Int)) = false := by simp; omega
    clear hok
    go_enter Try.func34, Try.ntmps34
    go_wp2_with fail
    refine (each n (2 ^ n) _ _ (fun _ => v) h5 rfl _ Try.call102 ?_).mono ?_
    · intro s hs w1 hb1
      refine (constantTable1 v w.heap.size s w1 hv ?_).mono ?_
      · rw [hb1.cell (by simp), cell_of_row _ _ _ _ _ _ (heap_alloc_new _ _)]; rfl
      · rintro e w2 ⟨rfl, rfl⟩
        exact ⟨rfl, Below.refl _ _⟩
    rintro e w2 ⟨rfl, hb2⟩
    go_wp2_with fail
    refine (text n (2 ^ n) _ h5 rfl (fun s hs => by rw [upto_lt _ _ _ hs]; exact hv) _).mono ?_
    rintro e w3 ⟨rfl, hb3⟩
    go_wp2_with fail
    go_ret2
    refine ⟨?_, ?_⟩
    · rw [H.out, strI_true, Int.toNat_natCast, Int.toNat_natCast, txt_upto]; rfl
    · exact (((Below.refl _ _).alloc (Nat.le_refl _) _).trans (hb2.mono (by simp))).trans (hb3.mono (by have := hb2.size; simp at this; omega))
  · have H := Lib.hid (show constOk n v = false by unfold constOk; simp; omega)
    rcases Decidable.em (n < 1) with c1 | c1
    · clear hok
      go_enter Try.func34, Try.ntmps34
      go_wp2_with fail
      go_ret2
      exact ⟨by rw [H.out]; rfl, (Below.refl _ _).alloc (Nat.le_refl _) _⟩
    rcases Decidable.em (5 < n) with c2 | c2
    · clear hok
      go_enter Try.func34, Try.ntmps34
      go_wp2_with fail
      go_ret2
      exact ⟨by rw [H.out]; rfl, (Below.refl _ _).alloc (Nat.le_refl _) _⟩
    rcases Decidable.em (v < 0) with c3 | c3
    · clear hok
      go_enter Try.func34, Try.ntmps34
      go_wp2_with fail
      go_ret2
      exact ⟨by rw [H.out]; rfl, (Below.refl _ _).alloc (Nat.le_refl _) _⟩
    have c4 : 1 < v := by omega
    clear hok
    go_enter Try.func34, Try.ntmps34
    go_wp2_with fail
    go_ret2
    exact ⟨by rw [H.out]; rfl, (Below.refl _ _).alloc (Nat.le_refl _) _⟩

theorem inputTableI (n i : Int) (w : World) :
    Calls Try.prog 49 #[.int .i64 n, .int .i64 i] w fun e w' => e = .returned (.tuple #[.string (strI (inputOk n i) (inputL n.toNat i.toNat)), .bool (inputOk n i)]) ∧ Below w.heap.size w w' := by
  by_cases hok : (1 ≤ n ∧ n ≤ 5) ∧ (0 ≤ i ∧ i ≤ n - 1)
  · have H := Lib.hid (show inputOk n i = true by unfold inputOk; simp; omega)
    obtain ⟨n, rfl⟩ := Int.eq_ofNat_of_zero_le (show 0 ≤ n by omega)
    obtain ⟨i, rfl⟩ := Int.eq_ofNat_of_zero_le (show 0 ≤ i by omega)
    have h1 : 1 ≤ n := by omega
    have h5 : n ≤ 5 := by omega
    have hv : i < n := by omega
    have d1 : decide ((n : Int) < 1) = false := by simp; omega
    have d2 : decide ((5 : Int) < (n : Int)) = false := by simp; omega
    have d3 : decide ((i : Int) < 0) = false := by simp
    have d4 : decide ((n : Int) ≤ (i : Int)) = false := by simp; omega
    clear hok
    go_enter Try.func49, Try.ntmps49
    go_wp2_with fail
    refine (each n (2 ^ n) _ _ (fun s => bitN s i) h5 rfl _ Try.call117 ?_).mono ?_
    · intro s hs w1 hb1
      refine (inputTable1 s i w.heap.size w1 (by have := pow_le32 n h5; omega) (by omega) ?_).mono ?_
      · rw [hb1.cell (by simp), cell_of_row _ _ _ _ _ _ (heap_alloc_new _ _)]; rfl
      · rintro e w2 ⟨rfl, rfl⟩
        exact ⟨rfl, Below.refl _ _⟩
    rintro e w2 ⟨rfl, hb2⟩
    go_wp2_with fail
    refine (text n (2 ^ n) _ h5 rfl (fun s hs => by rw [upto_lt _ _ _ hs]; exact bitN_le s i) _).mono ?_
    rintro e w3 ⟨rfl, hb3⟩
    go_wp2_with fail
    go_ret2
    refine ⟨?_, ?_⟩
    · rw [H.out, strI_true, Int.toNat_natCast, Int.toNat_natCast, txt_upto]; rfl
    · exact (((Below.refl _ _).alloc (Nat.le_refl _) _).trans (hb2.mono (by simp))).trans (hb3.mono (by have := hb2.size; simp at this; omega))
  · have H := Lib.hid (show inputOk n i = false by unfold inputOk; simp; omega)
    rcases Decidable.em (n < 1) with c1 | c1
    · clear hok
      go_enter Try.func49, Try.ntmps49
      go_wp2_with fail
      go_ret2
      exact ⟨by rw [H.out]; rfl, (Below.refl _ _).alloc (Nat.le_refl _) _⟩
    rcases Decidable.em (5 < n) with c2 | c2
    · clear hok
      go_enter Try.func49, Try.ntmps49
      go_wp2_with fail
      go_ret2
      exact ⟨by rw [H.out]; rfl, (Below.refl _ _).alloc (Nat.le_refl _) _⟩
    rcases Decidable.em (i < 0) with c3 | c3
    · clear hok
      go_enter Try.func49, Try.ntmps49
      go_wp2_with fail
      go_ret2
      exact ⟨by rw [H.out]; rfl, (Below.refl _ _).alloc (Nat.le_refl _) _⟩
    have c4 : n ≤ i := by omega
    clear hok
    go_enter Try.func49, Try.ntmps49
    go_wp2_with fail
    go_ret2
    exact ⟨by rw [H.out]; rfl, (Below.refl _ _).alloc (Nat.le_refl _) _⟩

theorem notTable1 (n b s : Nat) (g : Nat → Nat) (w : World) (hs : s < 32) (hg : g s ≤ 1) (hb : w.heap[b]? = some (.cells (tcells n g) 67 (0, 0))) :
    Calls Try.prog 88 #[.int .i64 (s : Int), .pointer (some ⟨b, 0, none⟩)] w fun e w' => e = .returned (.int .u8 ((1 - g s : Nat) : Int)) ∧ w = w' := by
  have hc : w.cell? ⟨b, 1 + s, none⟩ = some (.int .u8 ((g s : Nat) : Int)) := by
    rw [cell_of_row _ _ _ _ _ _ hb]; exact tcells_succ _ _ _ hs
  clear hb
  go_enter Try.func88, Try.ntmps88
  go_wp2
  go_ret
  exact ⟨ret_int (by omega), rfl⟩

theorem notTableI (f : ByteArray) (w : World) (hs : f.size ≤ maxLen) :
    Calls Try.prog 21 #[.string f] w fun e w' => e = .returned (.tuple #[.string (strI (isTab f.data.toList) (notL f.data.toList)), .bool (isTab f.data.toList)]) ∧ Below w.heap.size w w' := by
  cases hb : isTab f.data.toList
  · have HV := Lib.hid (rt_no _ hb)
    clear hb
    go_enter Try.func21, Try.ntmps21
    go_wp2_with (first | (go_at_call 82; (with_reducible refine (readTable _ _ hs).mono ?_); rw [HV.out]; rintro e w1 ⟨rfl, hb1⟩) | ((with_reducible refine wpList_alloc_row 67 _ zeroT ?_); (try simp only [Act.put, List.setIfInBounds_toArray, List.set_cons_succ, List.set_cons_zero, World.size_alloc, Nat.add_assoc, Nat.reduceAdd])) | ((with_reducible refine wpList_storeT_new 67 _ _ (0) _ (fun _ => 0) _ _ _ ?_ ?_ infoT ?_); (first | rfl | simp [Act.eval, Act.put]); rfl; (try simp only [Act.put, List.setIfInBounds_toArray, List.set_cons_succ, List.set_cons_zero, World.size_alloc, Nat.add_assoc, Nat.reduceAdd])) | fail)
    go_ret2
    exact ⟨rfl, hb1.alloc hb1.size _⟩
  · obtain ⟨n, h1, h5, hn, hlg, hz, hv⟩ := rt_yes _ hb
    have HV := Lib.hid hv
    have h0 := tcells_zero n (tv f.data.toList)
    have HZ := Lib.hid (tv_le _ hz)
    have HN := Lib.hid (show 2 ^ n = f.size from hn)
    have h32 : f.size ≤ 32 := by rw [← HN.out]; exact pow_le32 n h5
    clear hb hn hlg hz hv
    go_enter Try.func21, Try.ntmps21
    go_wp2_with (first | (go_at_call 82; (with_reducible refine (readTable _ _ hs).mono ?_); rw [HV.out]; rintro e w1 ⟨rfl, hb1⟩) | ((with_reducible refine wpList_alloc_row 67 _ zeroT ?_); (try simp only [Act.put, List.setIfInBounds_toArray, List.set_cons_succ, List.set_cons_zero, World.size_alloc, Nat.add_assoc, Nat.reduceAdd])) | ((with_reducible refine wpList_storeT_new 67 _ _ (n) _ (tv f.data.toList) _ _ _ ?_ ?_ infoT ?_); (first | rfl | simp [Act.eval, Act.put]); rfl; (try simp only [Act.put, List.setIfInBounds_toArray, List.set_cons_succ, List.set_cons_zero, World.size_alloc, Nat.add_assoc, Nat.reduceAdd])) | fail)
    refine (each n f.size _ _ (fun s => 1 - tv f.data.toList s) h5 HN.out _ Try.call88 ?_).mono ?_
    · intro s hs w2 hb2
      refine (notTable1 n w1.heap.size s (tv f.data.toList) w2 (by omega) (HZ.out s) ((hb2.block _ (by simp)).trans (heap_alloc_new _ _))).mono ?_
      rintro e w3 ⟨rfl, rfl⟩
      exact ⟨rfl, Below.refl _ _⟩
    rintro e w2 ⟨rfl, hb2⟩
    have hB : Below w.heap.size w w2 := (hb1.alloc hb1.size _).trans (hb2.mono (by have := hb1.size; simp; omega))
    clear hb1 hb2
    go_wp2_with fail
    refine (text n f.size _ h5 HN.out (fun s hs => by rw [upto_lt _ _ _ hs]; exact Nat.sub_le _ _) _).mono ?_
    rintro e w3 ⟨rfl, hb3⟩
    go_wp2_with fail
    go_ret2
    refine ⟨?_, hB.trans (hb3.mono hB.size)⟩
    rw [strI_true, txt_upto]; rfl

theorem dualTable1 (n m b s : Nat) (g : Nat → Nat) (w : World) (h5 : n ≤ 5) (hm : 2 ^ n = m) (hs : s < m) (hg : g (m - 1 - s) ≤ 1) (hb : w.heap[b]? = some (.cells (tcells n g) 67 (0, 0))) :
    Calls Try.prog 97 #[.int .i64 (s : Int), .pointer (some ⟨b, 0, none⟩)] w fun e w' => e = .returned (.int .u8 ((1 - g (m - 1 - s) : Nat) : Int)) ∧ Below w.heap.size w w' := by
  have h32 := pow_le32 n h5
  have HM := Lib.hid hm
  rw [hm] at h32
  have HB := Lib.hid hb
  clear hm hb
  go_enter Try.func97, Try.ntmps97
  go_wp2_with (first | ((with_reducible refine wpList_loadT 67 _ (b) (n) (g) 67 _ ?_ ?_ Try.underlying67 infoT ?_); rfl; exact (HB.out); (try simp only [Act.put, List.setIfInBounds_toArray, List.set_cons_succ, List.set_cons_zero, World.size_alloc, Nat.add_assoc, Nat.reduceAdd])) | fail)
  refine (width n _ h5 _).mono ?_
  rw [HM.out]
  rintro e w1 ⟨rfl, hb1⟩
  have hc : w1.cell? ⟨b, 1 + (m - 1 - s), none⟩ = some (.int .u8 ((g (m - 1 - s) : Nat) : Int)) := by
    rw [cell_of_row _ _ _ _ _ _ ((hb1.block _ (lt_of_block HB.out)).trans HB.out)]; exact tcells_succ _ _ _ (by omega)
  go_wp2_with fail
  go_ret
  exact ⟨ret_int (by omega), hb1⟩

theorem dualTableI (f : ByteArray) (w : World) (hs : f.size ≤ maxLen) :
    Calls Try.prog 28 #[.string f] w fun e w' => e = .returned (.tuple #[.string (strI (isTab f.data.toList) (dualL f.data.toList)), .bool (isTab f.data.toList)]) ∧ Below w.heap.size w w' := by
  cases hb : isTab f.data.toList
  · have HV := Lib.hid (rt_no _ hb)
    clear hb
    go_enter Try.func28, Try.ntmps28
    go_wp2_with (first | (go_at_call 82; (with_reducible refine (readTable _ _ hs).mono ?_); rw [HV.out]; rintro e w1 ⟨rfl, hb1⟩) | ((with_reducible refine wpList_alloc_row 67 _ zeroT ?_); (try simp only [Act.put, List.setIfInBounds_toArray, List.set_cons_succ, List.set_cons_zero, World.size_alloc, Nat.add_assoc, Nat.reduceAdd])) | ((with_reducible refine wpList_storeT_new 67 _ _ (0) _ (fun _ => 0) _ _ _ ?_ ?_ infoT ?_); (first | rfl | simp [Act.eval, Act.put]); rfl; (try simp only [Act.put, List.setIfInBounds_toArray, List.set_cons_succ, List.set_cons_zero, World.size_alloc, Nat.add_assoc, Nat.reduceAdd])) | fail)
    go_ret2
    exact ⟨rfl, hb1.alloc hb1.size _⟩
  · obtain ⟨n, h1, h5, hn, hlg, hz, hv⟩ := rt_yes _ hb
    have HV := Lib.hid hv
    have h0 := tcells_zero n (tv f.data.toList)
    have HZ := Lib.hid (tv_le _ hz)
    have HN := Lib.hid (show 2 ^ n = f.size from hn)
    have h32 : f.size ≤ 32 := by rw [← HN.out]; exact pow_le32 n h5
    clear hb hn hlg hz hv
    go_enter Try.func28, Try.ntmps28
    go_wp2_with (first | (go_at_call 82; (with_reducible refine (readTable _ _ hs).mono ?_); rw [HV.out]; rintro e w1 ⟨rfl, hb1⟩) | ((with_reducible refine wpList_alloc_row 67 _ zeroT ?_); (try simp only [Act.put, List.setIfInBounds_toArray, List.set_cons_succ, List.set_cons_zero, World.size_alloc, Nat.add_assoc, Nat.reduceAdd])) | ((with_reducible refine wpList_storeT_new 67 _ _ (n) _ (tv f.data.toList) _ _ _ ?_ ?_ infoT ?_); (first | rfl | simp [Act.eval, Act.put]); rfl; (try simp only [Act.put, List.setIfInBounds_toArray, List.set_cons_succ, List.set_cons_zero, World.size_alloc, Nat.add_assoc, Nat.reduceAdd])) | fail)
    refine (each n f.size _ _ (fun s => 1 - tv f.data.toList (f.size - 1 - s)) h5 HN.out _ Try.call97 ?_).mono ?_
    · intro s hs w2 hb2
      exact dualTable1 n f.size w1.heap.size s (tv f.data.toList) w2 h5 HN.out hs (HZ.out _) ((hb2.block _ (by simp)).trans (heap_alloc_new _ _))
    rintro e w2 ⟨rfl, hb2⟩
    have hB : Below w.heap.size w w2 := (hb1.alloc hb1.size _).trans (hb2.mono (by have := hb1.size; simp; omega))
    clear hb1 hb2
    go_wp2_with fail
    refine (text n f.size _ h5 HN.out (fun s hs => by rw [upto_lt _ _ _ hs]; exact Nat.sub_le _ _) _).mono ?_
    rintro e w3 ⟨rfl, hb3⟩
    go_wp2_with fail
    go_ret2
    refine ⟨?_, hB.trans (hb3.mono hB.size)⟩
    rw [strI_true, txt_upto]; rfl

end Go.Proofs.Ytjpkpdihldcdaaa
