/- Walks: states as texts. -/
import Derived.Test.YtjpkpdihldcdaaaWs2
namespace Go.Proofs.Ytjpkpdihldcdaaa
set_option linter.unusedVariables false
set_option linter.unusedSimpArgs false
open Go.RowKit

theorem formatState0 (s n : Nat) (w : World) (hs : s ≤ 65536) (hn : n ≤ 60) :
    Calls Try.prog 125 #[.int .i64 (s : Int), .int .i64 (n : Int)] w fun e w' => e = .returned (.string ⟨(fsL s n).toArray⟩) ∧ Below w.heap.size w w' := by
  go_enter Try.func125, Try.ntmps125
  go_wp2_with (first
    | ((with_reducible refine wpList_makeB 22 5 _ _ n ?_ ?_ Try.underlying22 infoB (by omega) ?_); rfl; rfl; (try simp only [Act.put, List.setIfInBounds_toArray, List.set_cons_succ, List.set_cons_zero, World.size_alloc, Nat.add_assoc, Nat.reduceAdd]))
    | fail)
  go_loopw [11] (fun i wr => ∃ k : Nat, k ≤ n ∧ i = .int .i64 k ∧ Hid (wr.heap[w.heap.size]? = some (.cells (bcells n (upto k (fun i => 48 + bitN s i))) 5 (0, 0))) ∧ Below w.heap.size w wr) (fun i _ => n - (intOf i).toNat)
  case atStart => exact ⟨0, Nat.zero_le _, rfl, by rw [upto_zero]; exact heap_alloc_new _ _, (Below.refl _ _).alloc (Nat.le_refl _) _⟩
  case round =>
    obtain ⟨k, hk, rfl, hS, hB⟩ := hrel
    by_cases hlt : k < n
    · have E := bit_and s k (by omega)
      have hb1 := bitN_le s k
      have hc2 : wr.cell? ⟨w.heap.size, k, none⟩ = some (.int .u8 ((upto k (fun i => 48 + bitN s i) k : Nat) : Int)) := by
        rw [cell_of_row _ _ _ _ _ _ hS.out]; exact bcells_get _ _ _ (by omega)
      have hf : wr.frozen? ⟨w.heap.size, k, none⟩ = false := frozen_of_row _ _ _ _ _ hS.out
      have hmod : ((bitN s k : Nat) : Int) % 256 = ((bitN s k : Nat) : Int) := by omega
      go_wp2_with fail
      go_roundw
      case rel =>
        refine ⟨k + 1, by omega, by go_num, ?_, hB.setCell (by simp) _⟩
        have := heap_setCell_same wr w.heap.size k _ _ (.int .u8 ((48 + bitN s k : Nat) : Int)) hS.out
        rw [bcells_set n _ k _ hlt, ← upto_succ (g := fun i => 48 + bitN s i)] at this
        exact this
      case measure => simp [intOf]; omega
    · obtain rfl : k = n := by omega
      go_wp2_with (first
        | ((with_reducible refine wpList_strB 22 9 5 _ w.heap.size k k (upto k (fun i => 48 + bitN s i)) ?_ Try.underlying22 Try.underlying5 Try.underlying9 hS.out ?_ ?_); rfl; (intro i hi; rw [upto_lt _ _ _ hi]; have := bitN_le s i; omega); (try simp only [Act.put, List.setIfInBounds_toArray, List.set_cons_succ, List.set_cons_zero, World.size_alloc, Nat.add_assoc, Nat.reduceAdd]))
        | fail)
      go_ret
      refine ⟨ret_str ?_, hB⟩
      rw [bl_upto, fsL]

theorem formatStateI (s n : Int) (w : World) :
    Calls Try.prog 61 #[.int .i64 s, .int .i64 n] w fun e w' => e = .returned (.string (strI (fsOk s n) (fsL s.toNat n.toNat))) ∧ Below w.heap.size w w' := by
  by_cases h1 : 1 ≤ n ∧ n ≤ 5
  · obtain ⟨n, rfl⟩ := Int.eq_ofNat_of_zero_le (show 0 ≤ n by omega)
    have h5 : n ≤ 5 := by omega
    have hp := wrap_pow n h5
    have h32 := pow_le32 n h5
    obtain ⟨m, hm⟩ : ∃ m, m = 2 ^ n := ⟨_, rfl⟩
    rw [← hm] at hp h32
    have HM := Lib.hid hm
    clear hm
    have d1 : decide ((n : Int) < 1) = false := by simp; omega
    have d2 : decide ((5 : Int) < (n : Int)) = false := by simp; omega
    by_cases h2 : 0 ≤ s ∧ s ≤ (m : Int) - 1
    · have H := Lib.hid (show fsOk s n = true by unfold fsOk; rw [Int.toNat_natCast, ← HM.out]; simp; omega)
      obtain ⟨s, rfl⟩ := Int.eq_ofNat_of_zero_le h2.1
      have d3 : decide ((s : Int) < 0) = false := by simp
      have d4 : decide (m ≤ s) = false := by simp; omega
      have hs32 : s ≤ 32 := by omega
      clear h1 h2
      go_enter Try.func61, Try.ntmps61
      go_wp2_with fail
      refine (formatState0 s n _ (by omega) (by omega)).mono ?_
      rintro e w1 ⟨rfl, hb1⟩
      go_wp2_with fail
      go_ret
      exact ⟨ret_str (by rw [H.out]; rfl), hb1⟩
    · have H := Lib.hid (show fsOk s n = false by unfold fsOk; rw [Int.toNat_natCast, ← HM.out]; simp; omega)
      rcases Decidable.em (s < 0) with c3 | c3
      · have d3 : decide (s < 0) = true := by simpa using c3
        clear h1 h2
        go_enter Try.func61, Try.ntmps61
        go_wp2_with fail
        go_ret
        exact ⟨ret_str (by rw [H.out]; rfl), Below.refl _ _⟩
      · have d3 : decide (s < 0) = false := by simpa using c3
        have d4 : decide ((m : Int) ≤ s) = true := by simp; omega
        clear h1 h2
        go_enter Try.func61, Try.ntmps61
        go_wp2_with fail
        go_ret
        exact ⟨ret_str (by rw [H.out]; rfl), Below.refl _ _⟩
  · have H := Lib.hid (show fsOk s n = false by unfold fsOk; simp; omega)
    rcases Decidable.em (n < 1) with c1 | c1
    · clear h1
      go_enter Try.func61, Try.ntmps61
      go_wp2_with fail
      go_ret
      exact ⟨ret_str (by rw [H.out]; rfl), Below.refl _ _⟩
    · have c2 : 5 < n := by omega
      clear h1
      go_enter Try.func61, Try.ntmps61
      go_wp2_with fail
      go_ret
      exact ⟨ret_str (by rw [H.out]; rfl), Below.refl _ _⟩

theorem l14Dec1 (d : Nat) (w : World) (hd : d ≤ 9) :
    Calls Try.prog 149 #[.int .i64 (d : Int)] w fun e w' => e = .returned (.string ⟨#[UInt8.ofNat (48 + d)]⟩) ∧ Below w.heap.size w w' := by
  go_enter Try.func149, Try.ntmps149
  go_wp2_with fail
  refine wp_loop_rounds 1 ?_
  rw [rounds_succ]
  have hmod : ((48 : Int) + (d : Int)) % 256 = ((48 + d : Nat) : Int) := by omega
  go_wp2_with (first
    | ((with_reducible refine wpList_strB 22 9 5 _ w.heap.size 1 1 (fun _ => 48 + d) ?_ Try.underlying22 Try.underlying5 Try.underlying9 ?_ ?_ ?_); rfl; exact heap_alloc_new _ _; (intro i hi; omega); (try simp only [Act.put, List.setIfInBounds_toArray, List.set_cons_succ, List.set_cons_zero, World.size_alloc, Nat.add_assoc, Nat.reduceAdd]))
    | fail)
  go_ret
  exact ⟨ret_str (by rw [ba_cat (bl 1 fun _ => 48 + d) []]; rfl), (Below.refl _ _).alloc (Nat.le_refl _) _⟩

theorem l3ToldS (s n : Nat) (w : World) (hs : s ≤ 65536) (hn : n ≤ 60) :
    Calls Try.prog 126 #[.int .i64 (s : Int), .int .i64 (n : Int)] w fun e w' => e = .returned (.string ⟨(fsL s n).toArray⟩) ∧ Below w.heap.size w w' := by
  go_enter Try.func126, Try.ntmps126
  go_wp2_with fail
  go_loopw [5, 6] (fun o i wr => ∃ (k : Nat) (O : ByteArray), k ≤ n ∧ i = .int .i64 k ∧ o = .string O ∧ O.size ≤ k ∧ Hid (O.data.toList = fsL s k) ∧ Below w.heap.size w wr) (fun _ i _ => n - (intOf i).toNat)
  case atStart => exact ⟨0, _, Nat.zero_le _, rfl, rfl, Nat.le_refl _, rfl, Below.refl _ _⟩
  case round =>
    obtain ⟨k, O, hk, rfl, rfl, hO, hD, hB⟩ := hrel
    by_cases hlt : k < n
    · go_wp2_with fail
      refine (l1BitS s k _ hs (by omega)).mono ?_
      rintro e w' ⟨rfl, rfl⟩
      go_wp2_with fail
      refine (l14Dec1 (bitN s k) _ (by have := bitN_le s k; omega)).mono ?_
      rintro e w1 ⟨rfl, hb1⟩
      go_wp2_with fail
      go_roundw
      case rel =>
        refine ⟨k + 1, _, by omega, by go_num, rfl, (by rw [ByteArray.size_append]; show O.size + 1 ≤ k + 1; omega), ?_, hB.trans (hb1.mono hB.size)⟩
        show _ = _
        rw [fsL, txt_succ, ← fsL, ← hD.out]
        simp
      case measure => simp [intOf]; omega
    · obtain rfl : k = n := by omega
      go_wp2_with fail
      go_ret
      exact ⟨ret_str (by rw [ba_list O, hD.out]), hB⟩

theorem formatStateS (s n : Int) (w : World) :
    Calls Try.prog 62 #[.int .i64 s, .int .i64 n] w fun e w' => e = .returned (.string (strI (fsOk s n) (fsL s.toNat n.toNat))) ∧ Below w.heap.size w w' := by
  cases h1 : (decide (1 ≤ n) && decide (n ≤ 5))
  · have H := Lib.hid (show fsOk s n = false by unfold fsOk; rw [h1]; rfl)
    go_enter Try.func62, Try.ntmps62
    go_wp2_with fail
    refine (l1In _ _ _ _).mono ?_
    rw [h1]
    rintro e w' ⟨rfl, rfl⟩
    go_wp2_with fail
    go_ret
    exact ⟨ret_str (by rw [H.out]; rfl), Below.refl _ _⟩
  · have g1 := h1
    simp only [Bool.and_eq_true, decide_eq_true_eq] at g1
    obtain ⟨n, rfl⟩ := Int.eq_ofNat_of_zero_le (show 0 ≤ n by omega)
    have h5 : n ≤ 5 := by omega
    have hp := wrap_pow n h5
    have h32 := pow_le32 n h5
    obtain ⟨m, hm⟩ : ∃ m, m = 2 ^ n := ⟨_, rfl⟩
    rw [← hm] at hp h32
    have HM := Lib.hid hm
    clear hm g1
    cases h2 : (decide (0 ≤ s) && decide (s ≤ (m : Int) - 1))
    · have H := Lib.hid (show fsOk s n = false by unfold fsOk; rw [Int.toNat_natCast, ← HM.out, h2, h1]; rfl)
      go_enter Try.func62, Try.ntmps62
      go_wp2_with fail
      refine (l1In _ _ _ _).mono ?_
      rw [h1]
      rintro e w' ⟨rfl, rfl⟩
      go_wp2_with fail
      refine (l1In _ _ _ _).mono ?_
      rw [h2]
      rintro e w' ⟨rfl, rfl⟩
      go_wp2_with fail
      go_ret
      exact ⟨ret_str (by rw [H.out]; rfl), Below.refl _ _⟩
    · have H := Lib.hid (show fsOk s n = true by unfold fsOk; rw [Int.toNat_natCast, ← HM.out, h2, h1]; rfl)
      have g2 := h2
      simp only [Bool.and_eq_true, decide_eq_true_eq] at g2
      obtain ⟨s, rfl⟩ := Int.eq_ofNat_of_zero_le (show 0 ≤ s by omega)
      have hs32 : s ≤ 32 := by omega
      clear g2
      go_enter Try.func62, Try.ntmps62
      go_wp2_with fail
      refine (l1In _ _ _ _).mono ?_
      rw [h1]
      rintro e w' ⟨rfl, rfl⟩
      go_wp2_with fail
      refine (l1In _ _ _ _).mono ?_
      rw [h2]
      rintro e w' ⟨rfl, rfl⟩
      go_wp2_with fail
      refine (l3ToldS s n _ (by omega) (by omega)).mono ?_
      rintro e w1 ⟨rfl, hb1⟩
      go_wp2_with fail
      go_ret
      exact ⟨ret_str (by rw [H.out]; rfl), hb1⟩

end Go.Proofs.Ytjpkpdihldcdaaa
