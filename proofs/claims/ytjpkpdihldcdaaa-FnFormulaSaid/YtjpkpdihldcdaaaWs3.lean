/- Walks: the reference's functions that make tables by lists. -/
import Derived.Test.YtjpkpdihldcdaaaWs2
namespace Go.Proofs.Ytjpkpdihldcdaaa
set_option linter.unusedVariables false
set_option linter.unusedSimpArgs false
open Go.RowKit

theorem infoI : (Try.prog.info? 3).map (fun i => (i.zero, i.size, i.bytes)) = some (some (.int .i64 0), 1, 8) := by kernel_rfl

theorem inputTableS (n i : Int) (w : World) :
    Calls Try.prog 50 #[.int .i64 n, .int .i64 i] w fun e w' => e = .returned (.tuple #[.string (strI (inputOk n i) (inputL n.toNat i.toNat)), .bool (inputOk n i)]) ∧ Below w.heap.size w w' := by
  cases h1 : (decide (1 ≤ n) && decide (n ≤ 5))
  · have H : inputOk n i = false := by unfold inputOk; rw [h1]; rfl
    have H := Lib.hid H
    go_enter Try.func50, Try.ntmps50
    go_wp2_with (first | ((with_reducible refine wpList_empty 44 3 (.int .i64 0) 8 Try.underlying44 infoI ?_); intro w1 hown1 hg1 hz1; (try simp only [Act.put, List.setIfInBounds_toArray, List.set_cons_succ, List.set_cons_zero, World.size_alloc, Nat.add_assoc, Nat.reduceAdd])) | (go_at_call 85; refine (l1In _ _ _ _).mono ?_; rw [h1]; rintro e w' ⟨rfl, rfl⟩))
    go_ret2
    exact ⟨by rw [H.out]; rfl, (Below.refl _ _).grown hg1 (Nat.le_refl _) (fun k hk => by cases hk)⟩
  have g1 := h1
  simp only [Bool.and_eq_true, decide_eq_true_eq] at g1
  cases h2 : (decide (0 ≤ i) && decide (i ≤ n - 1))
  · have H : inputOk n i = false := by unfold inputOk; rw [h1, h2]; rfl
    have H := Lib.hid H
    go_enter Try.func50, Try.ntmps50
    go_wp2_with (first | ((with_reducible refine wpList_empty 44 3 (.int .i64 0) 8 Try.underlying44 infoI ?_); intro w1 hown1 hg1 hz1; (try simp only [Act.put, List.setIfInBounds_toArray, List.set_cons_succ, List.set_cons_zero, World.size_alloc, Nat.add_assoc, Nat.reduceAdd])) | (go_at_call 85; refine (l1In _ _ _ _).mono ?_; (first | rw [h1] | rw [h2]); rintro e w' ⟨rfl, rfl⟩))
    go_ret2
    exact ⟨by rw [H.out]; rfl, (Below.refl _ _).grown hg1 (Nat.le_refl _) (fun k hk => by cases hk)⟩
  · have H : inputOk n i = true := by unfold inputOk; rw [h1, h2]; rfl
    have H := Lib.hid H
    have g2 := h2
    simp only [Bool.and_eq_true, decide_eq_true_eq] at g2
    obtain ⟨n, rfl⟩ := Int.eq_ofNat_of_zero_le (show 0 ≤ n by omega)
    obtain ⟨i, rfl⟩ := Int.eq_ofNat_of_zero_le (show 0 ≤ i by omega)
    have h5 : n ≤ 5 := by omega
    have hi5 : i < n := by omega
    have hp := wrap_pow n h5
    obtain ⟨m, hm⟩ : ∃ m, m = 2 ^ n := ⟨_, rfl⟩
    have hm32 := pow_le32 n h5
    rw [← hm] at hp hm32
    have HM := Lib.hid hm
    clear g1 g2 hm
    go_enter Try.func50, Try.ntmps50
    go_wp2_with (first | ((with_reducible refine wpList_empty 44 3 (.int .i64 0) 8 Try.underlying44 infoI ?_); intro w1 hown1 hg1 hz1; (try simp only [Act.put, List.setIfInBounds_toArray, List.set_cons_succ, List.set_cons_zero, World.size_alloc, Nat.add_assoc, Nat.reduceAdd])) | (go_at_call 85; refine (l1In _ _ _ _).mono ?_; (first | rw [h1] | rw [h2]); rintro e w' ⟨rfl, rfl⟩))
    go_loopw [6, 7] (fun v j wr => ∃ k : Nat, k ≤ m ∧ j = .int .i64 k ∧ wr.ownsRow w.heap.size 3 1 v k (intsV (fun s => bitN s i) k) ∧ Below w.heap.size w wr) (fun _ j _ => m - (intOf j).toNat)
    case atStart => exact ⟨0, Nat.zero_le _, rfl, hown1, (Below.refl _ _).grown hg1 (Nat.le_refl _) (fun k hk => by cases hk)⟩
    case round =>
      clear hown1 hg1 hz1
      obtain ⟨k, hk, rfl, hown, hB⟩ := hrel
      by_cases hlt : k < m
      · go_wp2_with (first
          | (go_at_call 98; (with_reducible refine (l1BitS k i _ (by omega) (by omega)).mono ?_); rintro e w' ⟨rfl, rfl⟩)
          | ((with_reducible refine wpList_push 44 3 _ _ (w.heap.size) (k) 8 (u6) (.int .i64 ((bitN k i : Nat) : Int)) (.int .i64 0) (_) Try.underlying44 infoI rfl rfl rfl ?_ ?_ ?_ (hown) (hB.size) (by omega) (by decide) ?_); rfl; rfl; rfl; intro v2 w2 hown2 hg2 hat2 hbel2; (try simp only [Act.put, List.setIfInBounds_toArray, List.set_cons_succ, List.set_cons_zero, World.size_alloc, Nat.add_assoc, Nat.reduceAdd]))
          | fail)
        go_roundw
        case rel => exact ⟨k + 1, by omega, by go_num, by rw [intsV_succ]; exact hown2, below_grown hB hbel2 (Nat.le_refl _)⟩
        case measure => simp [intOf]; omega
      · obtain rfl : k = m := by omega
        go_wp2_with (first | (go_at_call 95; (with_reducible refine (l1TextS ((List.range (k)).map (fun s => bitN s i)) _ _ (range01 _ _ (fun s _ => bitN_le s i)) (by simp; omega) (Row.of_own hown)).mono ?_); rintro e w3 ⟨rfl, hb3⟩) | fail)
        go_ret2
        refine ⟨?_, hB.trans (hb3.mono hB.size)⟩
        rw [H.out, strI_true, Int.toNat_natCast, Int.toNat_natCast, digs_txt, inputL, ← HM.out]
        rfl

theorem l1AtZ (f : ByteArray) (s : Int) (w : World) (h0 : 0 ≤ s) (hs : s < f.size) (hz : f.data.toList.all zb = true) :
    Calls Try.prog 86 #[.string f, .int .i64 s] w fun e w' => e = .returned (.int .i64 ((tv f.data.toList s.toNat : Nat) : Int)) ∧ w = w' := by
  obtain ⟨s, rfl⟩ := Int.eq_ofNat_of_zero_le h0
  exact l1AtS f s w (by omega) hz

theorem l1NotS (f : ByteArray) (w : World) (hs : f.size ≤ 65536) (hz : f.data.toList.all zb = true) :
    Calls Try.prog 90 #[.string f] w fun e w' => e = .returned (.string ⟨(notL f.data.toList).toArray⟩) ∧ Below w.heap.size w w' := by
  have HZ := Lib.hid hz
  clear hz
  go_enter Try.func90, Try.ntmps90
  go_wp2_with (first | ((with_reducible refine wpList_empty 44 3 (.int .i64 0) 8 Try.underlying44 infoI ?_); intro w1 hown1 hg1 hz1; (try simp only [Act.put, List.setIfInBounds_toArray, List.set_cons_succ, List.set_cons_zero, World.size_alloc, Nat.add_assoc, Nat.reduceAdd])) | fail)
  go_loopw [3, 4] (fun v j wr => ∃ k : Nat, k ≤ f.size ∧ j = .int .i64 k ∧ wr.ownsRow w.heap.size 3 1 v k (intsV (fun s => 1 - tv f.data.toList s) k) ∧ Below w.heap.size w wr) (fun _ j _ => f.size - (intOf j).toNat)
  case atStart => exact ⟨0, Nat.zero_le _, rfl, hown1, (Below.refl _ _).grown hg1 (Nat.le_refl _) (fun k hk => by cases hk)⟩
  case round =>
    clear hown1 hg1 hz1
    obtain ⟨k, hk, rfl, hown, hB⟩ := hrel
    by_cases hlt : k < f.size
    · have h1 := tv_le _ HZ.out k
      have e1 : (1 : Int) - ((tv f.data.toList k : Nat) : Int) = ((1 - tv f.data.toList k : Nat) : Int) := by omega
      have E1 := Lib.hid e1
      clear e1
      go_wp2_with fail
      refine (l1AtS f k _ hlt HZ.out).mono ?_
      rintro e w' ⟨rfl, rfl⟩
      go_wp2_with (first | ((with_reducible refine wpList_push 44 3 _ _ (w.heap.size) (k) 8 (u3) (.int .i64 ((1 : Int) - ((tv f.data.toList k : Nat) : Int))) (.int .i64 0) (_) Try.underlying44 infoI rfl rfl rfl ?_ ?_ ?_ (hown) (hB.size) (by omega) (by decide) ?_); rfl; rfl; rfl; intro v2 w2 hown2 hg2 hat2 hbel2; (try simp only [Act.put, List.setIfInBounds_toArray, List.set_cons_succ, List.set_cons_zero, World.size_alloc, Nat.add_assoc, Nat.reduceAdd])) | fail)
      go_roundw
      case rel => exact ⟨k + 1, by omega, by go_num, by rw [intsV_succ, ← E1.out]; exact hown2, below_grown hB hbel2 (Nat.le_refl _)⟩
      case measure => simp [intOf]; omega
    · obtain rfl : k = f.size := by omega
      go_wp2_with (first | (go_at_call 95; (with_reducible refine (l1TextS ((List.range (f.size)).map (fun s => 1 - tv f.data.toList s)) _ _ (range01 _ _ (fun s _ => Nat.sub_le 1 _)) (by simp; omega) (Row.of_own hown)).mono ?_); rintro e w3 ⟨rfl, hb3⟩) | fail)
      go_ret
      refine ⟨ret_str ?_, hB.trans (hb3.mono hB.size)⟩
      rw [digs_txt, notL]
      rfl

theorem notTableS (f : ByteArray) (w : World) (hs : f.size ≤ maxLen) :
    Calls Try.prog 22 #[.string f] w fun e w' => e = .returned (.tuple #[.string (strI (isTab f.data.toList) (notL f.data.toList)), .bool (isTab f.data.toList)]) ∧ Below w.heap.size w w' := by
  cases hb : isTab f.data.toList
  · go_enter Try.func22, Try.ntmps22
    go_wp2_with (first | (go_at_call 18; refine (tableValidS _ _ hs).mono ?_; rw [hb]; rintro e w' ⟨rfl, rfl⟩))
    go_ret2
    exact ⟨rfl, Below.refl _ _⟩
  · obtain ⟨n, h1, h5, hn, hlg, hz, hv⟩ := rt_yes _ hb
    have hl : f.size ≤ 32 := by have := pow_le32 n h5; rw [hn] at this; exact this
    have HZ := Lib.hid hz
    clear hn hlg hz hv
    go_enter Try.func22, Try.ntmps22
    go_wp2_with (first | (go_at_call 18; refine (tableValidS _ _ hs).mono ?_; rw [hb]; rintro e w' ⟨rfl, rfl⟩) | (go_at_call 90; refine (l1NotS _ _ (by omega) HZ.out).mono ?_; rintro e w1 ⟨rfl, hb1⟩))
    go_ret2
    exact ⟨rfl, hb1⟩

theorem dualTableS (f : ByteArray) (w : World) (hs : f.size ≤ maxLen) :
    Calls Try.prog 29 #[.string f] w fun e w' => e = .returned (.tuple #[.string (strI (isTab f.data.toList) (dualL f.data.toList)), .bool (isTab f.data.toList)]) ∧ Below w.heap.size w w' := by
  cases hb : isTab f.data.toList
  · go_enter Try.func29, Try.ntmps29
    go_wp2_with (first | ((with_reducible refine wpList_empty 44 3 (.int .i64 0) 8 Try.underlying44 infoI ?_); intro w1 hown1 hg1 hz1; (try simp only [Act.put, List.setIfInBounds_toArray, List.set_cons_succ, List.set_cons_zero, World.size_alloc, Nat.add_assoc, Nat.reduceAdd])) | (go_at_call 18; refine (tableValidS _ _ hs).mono ?_; rw [hb]; rintro e w' ⟨rfl, rfl⟩))
    go_ret2
    exact ⟨rfl, (Below.refl _ _).grown hg1 (Nat.le_refl _) (fun k hk => by cases hk)⟩
  · obtain ⟨n, h1, h5, hn, hlg, hz, hv⟩ := rt_yes _ hb
    have hl : f.size ≤ 32 := by have := pow_le32 n h5; rw [hn] at this; exact this
    have HZ := Lib.hid hz
    clear hn hlg hz hv
    go_enter Try.func29, Try.ntmps29
    go_wp2_with (first | ((with_reducible refine wpList_empty 44 3 (.int .i64 0) 8 Try.underlying44 infoI ?_); intro w1 hown1 hg1 hz1; (try simp only [Act.put, List.setIfInBounds_toArray, List.set_cons_succ, List.set_cons_zero, World.size_alloc, Nat.add_assoc, Nat.reduceAdd])) | (go_at_call 18; refine (tableValidS _ _ hs).mono ?_; rw [hb]; rintro e w' ⟨rfl, rfl⟩))
    go_loopw [4, 5] (fun v j wr => ∃ k : Nat, k ≤ f.size ∧ j = .int .i64 ((f.size : Int) - 1 - k) ∧ wr.ownsRow w.heap.size 3 1 v k (intsV (fun s => 1 - tv f.data.toList (f.size - 1 - s)) k) ∧ Below w.heap.size w wr) (fun _ j _ => (intOf j + 1).toNat)
    case atStart => exact ⟨0, Nat.zero_le _, by go_num, hown1, (Below.refl _ _).grown hg1 (Nat.le_refl _) (fun k hk => by cases hk)⟩
    case round =>
      clear hown1 hg1 hz1
      obtain ⟨k, hk, rfl, hown, hB⟩ := hrel
      by_cases hlt : k < f.size
      · have h1 := tv_le _ HZ.out (f.size - 1 - k)
        have e0 : ((f.size : Int) - 1 - (k : Int)).toNat = f.size - 1 - k := by omega
        have e1 : (1 : Int) - ((tv f.data.toList (f.size - 1 - k) : Nat) : Int) = ((1 - tv f.data.toList (f.size - 1 - k) : Nat) : Int) := by omega
        have E1 := Lib.hid e1
        have E0 := Lib.hid e0
        clear e1 e0
        go_wp2_with fail
        refine (l1AtZ f _ _ (by omega) (by omega) HZ.out).mono ?_
        rw [E0.out]
        rintro e w' ⟨rfl, rfl⟩
        go_wp2_with (first | ((with_reducible refine wpList_push 44 3 _ _ (w.heap.size) (k) 8 (u4) (.int .i64 ((1 : Int) - ((tv f.data.toList (f.size - 1 - k) : Nat) : Int))) (.int .i64 0) (_) Try.underlying44 infoI rfl rfl rfl ?_ ?_ ?_ (hown) (hB.size) (by omega) (by decide) ?_); rfl; rfl; rfl; intro v2 w2 hown2 hg2 hat2 hbel2; (try simp only [Act.put, List.setIfInBounds_toArray, List.set_cons_succ, List.set_cons_zero, World.size_alloc, Nat.add_assoc, Nat.reduceAdd])) | fail)
        go_roundw
        case rel => exact ⟨k + 1, by omega, by go_num, by rw [intsV_succ, ← E1.out]; exact hown2, below_grown hB hbel2 (Nat.le_refl _)⟩
        case measure => simp [intOf]; omega
      · obtain rfl : k = f.size := by omega
        go_wp2_with (first | (go_at_call 95; (with_reducible refine (l1TextS ((List.range (f.size)).map (fun s => 1 - tv f.data.toList (f.size - 1 - s))) _ _ (range01 _ _ (fun s _ => Nat.sub_le 1 _)) (by simp; omega) (Row.of_own hown)).mono ?_); rintro e w3 ⟨rfl, hb3⟩) | fail)
        go_ret2
        refine ⟨?_, hB.trans (hb3.mono hB.size)⟩
        rw [digs_txt, strI_true, dualL]
        rfl

end Go.Proofs.Ytjpkpdihldcdaaa
