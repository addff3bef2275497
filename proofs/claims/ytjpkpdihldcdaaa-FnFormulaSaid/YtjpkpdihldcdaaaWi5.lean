/- Walks: the program's signs, decisions, sensitivity. -/
import Derived.Test.YtjpkpdihldcdaaaWi3
namespace Go.Proofs.Ytjpkpdihldcdaaa
set_option linter.unusedVariables false
set_option linter.unusedSimpArgs false
open Go.RowKit

theorem signI (n m i : Nat) (g : Nat → Nat) (w : World) (h5 : n ≤ 5) (hm : 2 ^ n = m) (hi : i < n) (hg : ∀ s, g s ≤ 1) :
    Calls Try.prog 118 #[.agg (tcells n g), .int .i64 (i : Int)] w fun e w' => e = .returned (.string ⟨#[sgB (upB g m i) (dnB g m i)]⟩) ∧ Below w.heap.size w w' := by
  have HG := Lib.hid hg
  have HM := Lib.hid hm
  have HU := Lib.hid (show upK g m i = upB g m i by rw [← hm]; exact upK_all g n i h5 hi)
  have HD := Lib.hid (show dnK g m i = dnB g m i by rw [← hm]; exact dnK_all g n i h5 hi)
  have hm32 : m ≤ 32 := by rw [← hm]; exact pow_le32 n h5
  clear hg hm
  go_enter Try.func118, Try.ntmps118
  go_wp2_with (first | ((with_reducible refine wpList_loadT 67 _ (w.heap.size) (n) (g) 67 _ ?_ ?_ Try.underlying67 infoT ?_); rfl; exact (heap_alloc_new _ _); (try simp only [Act.put, List.setIfInBounds_toArray, List.set_cons_succ, List.set_cons_zero, World.size_alloc, Nat.add_assoc, Nat.reduceAdd])) | fail)
  refine (width n _ h5 _).mono ?_
  rw [HM.out]
  rintro e w1 ⟨rfl, hb1⟩
  have hT : w1.heap[w.heap.size]? = some (.cells (tcells n g) 67 (0, 0)) := (hb1.block _ (by simp)).trans (heap_alloc_new _ _)
  have hB : Below w.heap.size w w1 := ((Below.refl _ _).alloc (Nat.le_refl _) _).trans (hb1.mono (by simp))
  have HT := Lib.hid hT
  clear hb1 hT
  go_wp2_with fail
  go_loopw [5, 6, 12] (fun u d j wr => ∃ k : Nat, k ≤ m ∧ j = .int .i64 k ∧ u = .bool (upK g k i) ∧ d = .bool (dnK g k i) ∧ Hid (wr.heap[w.heap.size]? = some (.cells (tcells n g) 67 (0, 0))) ∧ Below w.heap.size w wr) (fun _ _ j _ => m - (intOf j).toNat)
  case atStart => exact ⟨0, Nat.zero_le _, rfl, rfl, rfl, HT, hB⟩
  case round =>
    clear HT hB
    obtain ⟨k, hk, rfl, rfl, rfl, hT, hB⟩ := hrel
    by_cases hlt : k < m
    · have E := bit_and k i (by omega)
      have hb := bitN_le k i
      have U := Lib.hid (upK_succ g k i)
      have D := Lib.hid (dnK_succ g k i)
      generalize upK g k i = up at *
      generalize dnK g k i = dn at *
      rcases (show bitN k i = 0 ∨ bitN k i = 1 by omega) with c | c
      · have hh1 : holdN k i 1 < m := by rw [← HM.out]; exact hold_lt n k i _ h5 (by rw [HM.out]; exact hlt) hi (by omega)
        have O1 := hold_one_all k (by omega) i (by omega)
        have c1 : wr.cell? ⟨w.heap.size, 1 + k, none⟩ = some (.int .u8 ((g k : Nat) : Int)) := by
          rw [cell_of_row _ _ _ _ _ _ hT.out]; exact tcells_succ _ _ _ (by omega)
        have c2 : wr.cell? ⟨w.heap.size, 1 + holdN k i 1, none⟩ = some (.int .u8 ((g (holdN k i 1) : Nat) : Int)) := by
          rw [cell_of_row _ _ _ _ _ _ hT.out]; exact tcells_succ _ _ _ (by omega)
        have g0 := HG.out k
        have g1 := HG.out (holdN k i 1)
        have q1 : (0 : Int) ≤ ((holdN k i 1 : Nat) : Int) := by omega
        have q2 : ((holdN k i 1 : Nat) : Int) < 32 := by omega
        have q3 : (k : Int) < 32 := by omega
        rcases (show g k = 0 ∨ g k = 1 by omega) with c3 | c3 <;> rcases (show g (holdN k i 1) = 0 ∨ g (holdN k i 1) = 1 by omega) with c4 | c4
        all_goals
          go_wp2_with fail
          go_quiet (fail)
          go_wp2_with fail
          go_roundw
          case rel => exact ⟨k + 1, by omega, by go_num, by rw [U.out, c, c3, c4]; simp, by rw [D.out, c, c3, c4]; simp, hT, ⟨hB.os, hB.tape, hB.output, hB.size, hB.block⟩⟩
          case measure => simp [intOf]; omega
      · go_wp2_with fail
        go_roundw
        case rel => exact ⟨k + 1, by omega, by go_num, by rw [U.out, c]; simp, by rw [D.out, c]; simp, hT, hB⟩
        case measure => simp [intOf]; omega
    · obtain rfl : k = m := by omega
      have HU2 := HU.out
      have HD2 := HD.out
      generalize upK g k i = up at *
      generalize dnK g k i = dn at *
      cases up <;> cases dn
      all_goals
        have X := Lib.hid HU2
        have Y := Lib.hid HD2
        clear HU2 HD2
        go_wp2_with fail
        go_ret
        exact ⟨ret_str (by rw [← X.out, ← Y.out]; rfl), hB⟩

theorem signOfI (f : ByteArray) (i : Int) (w : World) (hs : f.size ≤ maxLen) :
    Calls Try.prog 51 #[.string f, .int .i64 i] w fun e w' => e = .returned (.string (strI (inOk f.data.toList i) (signL f.data.toList i.toNat))) ∧ Below w.heap.size w w' := by
  cases hb : isTab f.data.toList
  · have HV := Lib.hid (rt_no _ hb)
    have H := Lib.hid (show inOk f.data.toList i = false by unfold inOk; rw [hb]; rfl)
    clear hb
    go_enter Try.func51, Try.ntmps51
    go_wp2_with (first | (go_at_call 82; (with_reducible refine (readTable _ _ hs).mono ?_); rw [HV.out]; rintro e w1 ⟨rfl, hb1⟩) | ((with_reducible refine wpList_alloc_row 67 _ zeroT ?_); (try simp only [Act.put, List.setIfInBounds_toArray, List.set_cons_succ, List.set_cons_zero, World.size_alloc, Nat.add_assoc, Nat.reduceAdd])) | ((with_reducible refine wpList_storeT_new 67 _ _ (0) _ (fun _ => 0) _ _ _ ?_ ?_ infoT ?_); (first | rfl | simp [Act.eval, Act.put]); rfl; (try simp only [Act.put, List.setIfInBounds_toArray, List.set_cons_succ, List.set_cons_zero, World.size_alloc, Nat.add_assoc, Nat.reduceAdd])) | fail)
    go_ret
    exact ⟨ret_str (by rw [H.out]; rfl), hb1.alloc hb1.size _⟩
  · obtain ⟨n, h1, h5, hn, hlg, hz, hv⟩ := rt_yes _ hb
    have HV := Lib.hid hv
    have h0 := tcells_zero n (tv f.data.toList)
    have HZ := Lib.hid (tv_le _ hz)
    have HN := Lib.hid (show 2 ^ n = f.size from hn)
    by_cases hok : 0 ≤ i ∧ i < n
    · have H := Lib.hid (show inOk f.data.toList i = true by unfold inOk; rw [hb, hlg]; simp; omega)
      obtain ⟨a1, a2⟩ := hok
      obtain ⟨i, rfl⟩ := Int.eq_ofNat_of_zero_le a1
      have hin : i < n := by omega
      have d1 : decide ((i : Int) < 0) = false := by simp
      have d2 : decide (n ≤ i) = false := by simp; omega
      clear hb hn hlg hz hv a1 a2
      go_enter Try.func51, Try.ntmps51
      go_wp2_with (first | (go_at_call 82; (with_reducible refine (readTable _ _ hs).mono ?_); rw [HV.out]; rintro e w1 ⟨rfl, hb1⟩) | ((with_reducible refine wpList_alloc_row 67 _ zeroT ?_); (try simp only [Act.put, List.setIfInBounds_toArray, List.set_cons_succ, List.set_cons_zero, World.size_alloc, Nat.add_assoc, Nat.reduceAdd])) | ((with_reducible refine wpList_storeT_new 67 _ _ (n) _ (tv f.data.toList) _ _ _ ?_ ?_ infoT ?_); (first | rfl | simp [Act.eval, Act.put]); rfl; (try simp only [Act.put, List.setIfInBounds_toArray, List.set_cons_succ, List.set_cons_zero, World.size_alloc, Nat.add_assoc, Nat.reduceAdd])) | ((with_reducible refine wpList_loadT 67 _ (w1.heap.size) (n) (tv f.data.toList) 67 _ ?_ ?_ Try.underlying67 infoT ?_); rfl; exact (heap_alloc_new _ _); (try simp only [Act.put, List.setIfInBounds_toArray, List.set_cons_succ, List.set_cons_zero, World.size_alloc, Nat.add_assoc, Nat.reduceAdd])) | fail)
      refine (signI n f.size i _ _ h5 HN.out hin HZ.out).mono ?_
      rintro e w2 ⟨rfl, hb2⟩
      have hB : Below w.heap.size w w2 := (hb1.alloc hb1.size _).trans (hb2.mono (by have := hb1.size; simp; omega))
      clear hb1 hb2
      go_wp2_with fail
      go_ret
      exact ⟨ret_str (by rw [H.out]; rfl), hB⟩
    · have H := Lib.hid (show inOk f.data.toList i = false by unfold inOk; rw [hb, hlg]; simp; omega)
      by_cases a1 : i < 0
      · have d1 : decide (i < 0) = true := by simpa using a1
        clear hb hn hlg hz hv hok
        go_enter Try.func51, Try.ntmps51
        go_wp2_with (first | (go_at_call 82; (with_reducible refine (readTable _ _ hs).mono ?_); rw [HV.out]; rintro e w1 ⟨rfl, hb1⟩) | ((with_reducible refine wpList_alloc_row 67 _ zeroT ?_); (try simp only [Act.put, List.setIfInBounds_toArray, List.set_cons_succ, List.set_cons_zero, World.size_alloc, Nat.add_assoc, Nat.reduceAdd])) | ((with_reducible refine wpList_storeT_new 67 _ _ (n) _ (tv f.data.toList) _ _ _ ?_ ?_ infoT ?_); (first | rfl | simp [Act.eval, Act.put]); rfl; (try simp only [Act.put, List.setIfInBounds_toArray, List.set_cons_succ, List.set_cons_zero, World.size_alloc, Nat.add_assoc, Nat.reduceAdd])) | fail)
        go_ret
        exact ⟨ret_str (by rw [H.out]; rfl), hb1.alloc hb1.size _⟩
      · have d1 : decide (i < 0) = false := by simpa using a1
        have d2 : decide ((n : Int) ≤ i) = true := by simp; omega
        clear hb hn hlg hz hv hok
        go_enter Try.func51, Try.ntmps51
        go_wp2_with (first | (go_at_call 82; (with_reducible refine (readTable _ _ hs).mono ?_); rw [HV.out]; rintro e w1 ⟨rfl, hb1⟩) | ((with_reducible refine wpList_alloc_row 67 _ zeroT ?_); (try simp only [Act.put, List.setIfInBounds_toArray, List.set_cons_succ, List.set_cons_zero, World.size_alloc, Nat.add_assoc, Nat.reduceAdd])) | ((with_reducible refine wpList_storeT_new 67 _ _ (n) _ (tv f.data.toList) _ _ _ ?_ ?_ infoT ?_); (first | rfl | simp [Act.eval, Act.put]); rfl; (try simp only [Act.put, List.setIfInBounds_toArray, List.set_cons_succ, List.set_cons_zero, World.size_alloc, Nat.add_assoc, Nat.reduceAdd])) | fail)
        go_ret
        exact ⟨ret_str (by rw [H.out]; rfl), hb1.alloc hb1.size _⟩

theorem sensitivityOfI (f : ByteArray) (w : World) (hs : f.size ≤ maxLen) :
    Calls Try.prog 31 #[.string f] w fun e w' => e = .returned (.int .i64 (sensL f.data.toList)) ∧ Below w.heap.size w w' := by
  cases hb : isTab f.data.toList
  · have HV := Lib.hid (rt_no _ hb)
    have H := Lib.hid (show sensL f.data.toList = -1 by unfold sensL; rw [hb]; rfl)
    clear hb
    go_enter Try.func31, Try.ntmps31
    go_wp2_with (first | (go_at_call 82; (with_reducible refine (readTable _ _ hs).mono ?_); rw [HV.out]; rintro e w1 ⟨rfl, hb1⟩) | ((with_reducible refine wpList_alloc_row 67 _ zeroT ?_); (try simp only [Act.put, List.setIfInBounds_toArray, List.set_cons_succ, List.set_cons_zero, World.size_alloc, Nat.add_assoc, Nat.reduceAdd])) | ((with_reducible refine wpList_storeT_new 67 _ _ (0) _ (fun _ => 0) _ _ _ ?_ ?_ infoT ?_); (first | rfl | simp [Act.eval, Act.put]); rfl; (try simp only [Act.put, List.setIfInBounds_toArray, List.set_cons_succ, List.set_cons_zero, World.size_alloc, Nat.add_assoc, Nat.reduceAdd])) | fail)
    go_ret
    exact ⟨ret_int H.out.symm, hb1.alloc hb1.size _⟩
  · obtain ⟨n, h1, h5, hn, hlg, hz, hv⟩ := rt_yes _ hb
    have H := Lib.hid (show sensL f.data.toList = snT (tv f.data.toList) n f.size by unfold sensL; rw [hb, hlg]; rfl)
    have HV := Lib.hid hv
    have h0 := tcells_zero n (tv f.data.toList)
    have HZ := Lib.hid (tv_le _ hz)
    have HN := Lib.hid (show 2 ^ n = f.size from hn)
    have h32 : f.size ≤ 32 := by have := pow_le32 n h5; rw [hn] at this; exact this
    clear hb hn hlg hz hv
    go_enter Try.func31, Try.ntmps31
    go_wp2_with (first | (go_at_call 82; (with_reducible refine (readTable _ _ hs).mono ?_); rw [HV.out]; rintro e w1 ⟨rfl, hb1⟩) | ((with_reducible refine wpList_alloc_row 67 _ zeroT ?_); (try simp only [Act.put, List.setIfInBounds_toArray, List.set_cons_succ, List.set_cons_zero, World.size_alloc, Nat.add_assoc, Nat.reduceAdd])) | ((with_reducible refine wpList_storeT_new 67 _ _ (n) _ (tv f.data.toList) _ _ _ ?_ ?_ infoT ?_); (first | rfl | simp [Act.eval, Act.put]); rfl; (try simp only [Act.put, List.setIfInBounds_toArray, List.set_cons_succ, List.set_cons_zero, World.size_alloc, Nat.add_assoc, Nat.reduceAdd])) | ((with_reducible refine wpList_loadT 67 _ (w1.heap.size) (n) (tv f.data.toList) 67 _ ?_ ?_ Try.underlying67 infoT ?_); rfl; exact (heap_alloc_new _ _); (try simp only [Act.put, List.setIfInBounds_toArray, List.set_cons_succ, List.set_cons_zero, World.size_alloc, Nat.add_assoc, Nat.reduceAdd])) | fail)
    refine (width n _ h5 _).mono ?_
    rw [HN.out]
    rintro e w2 ⟨rfl, hb2⟩
    have hT : w2.heap[w1.heap.size]? = some (.cells (tcells n (tv f.data.toList)) 67 (0, 0)) := (hb2.block _ (by simp)).trans (heap_alloc_new _ _)
    have hB : Below w.heap.size w w2 := (hb1.alloc hb1.size _).trans (hb2.mono (by have := hb1.size; simp; omega))
    have HT := Lib.hid hT
    clear hb1 hb2 hT
    go_wp2_with fail
    go_loopw [5, 17] (fun c j wr => ∃ k : Nat, k ≤ f.size ∧ j = .int .i64 k ∧ c = .int .i64 ((snT (tv f.data.toList) n k : Nat) : Int) ∧ Hid (wr.heap[w1.heap.size]? = some (.cells (tcells n (tv f.data.toList)) 67 (0, 0))) ∧ Below w.heap.size w wr) (fun _ j _ => f.size - (intOf j).toNat)
    case atStart => exact ⟨0, Nat.zero_le _, rfl, rfl, HT, hB⟩
    case round =>
      clear HT hB
      obtain ⟨k, hk, rfl, rfl, hT, hB⟩ := hrel
      by_cases hlt : k < f.size
      · have hT1 := snT_le (tv f.data.toList) n k
        have hT2 : snT (tv f.data.toList) n k ≤ 32 * 5 := Nat.le_trans hT1 (Nat.mul_le_mul (by omega) h5)
        have hc0 : wr.cell? ⟨w1.heap.size, 0, none⟩ = some (.int .i64 (n : Int)) := by rw [cell_of_row _ _ _ _ _ _ hT.out]; exact h0
        clear hT1
        obtain ⟨wo, rfl⟩ : ∃ wo : World, wo = wr := ⟨_, rfl⟩
        go_wp2_with fail
        go_loopw [5, 22] (fun c j wr => ∃ i : Nat, i ≤ n ∧ j = .int .i64 i ∧ c = .int .i64 ((snT (tv f.data.toList) n k + snR (tv f.data.toList) k i : Nat) : Int) ∧ Hid (wr.heap[w1.heap.size]? = some (.cells (tcells n (tv f.data.toList)) 67 (0, 0))) ∧ Below w.heap.size w wr) (fun _ j _ => n - (intOf j).toNat)
        case atStart => exact ⟨0, Nat.zero_le _, rfl, rfl, hT, hB⟩
        case round =>
          clear hT hB hc0
          obtain ⟨i, hi, rfl, rfl, hT, hB⟩ := hrel
          have hR := snR_le (tv f.data.toList) k i
          by_cases hlti : i < n
          · have hh1 : holdN k i 1 < f.size := by rw [← HN.out]; exact hold_lt n k i _ h5 (by rw [HN.out]; exact hlt) hlti (by omega)
            have hR1 : snR (tv f.data.toList) k (i + 1) = snR (tv f.data.toList) k i + if snB (tv f.data.toList) k i then 1 else 0 := rfl
            have HR := Lib.hid hR1
            have hb := bitN_le k i
            have E := bit_and k i (by omega)
            have O1 := hold_one_all k (by omega) i (by omega)
            have c1 : wr.cell? ⟨w1.heap.size, 1 + k, none⟩ = some (.int .u8 ((tv f.data.toList k : Nat) : Int)) := by
              rw [cell_of_row _ _ _ _ _ _ hT.out]; exact tcells_succ _ _ _ (by omega)
            have c2 : wr.cell? ⟨w1.heap.size, 1 + holdN k i 1, none⟩ = some (.int .u8 ((tv f.data.toList (holdN k i 1) : Nat) : Int)) := by
              rw [cell_of_row _ _ _ _ _ _ hT.out]; exact tcells_succ _ _ _ (by omega)
            have q1 : (0 : Int) ≤ ((holdN k i 1 : Nat) : Int) := by omega
            have q2 : ((holdN k i 1 : Nat) : Int) < 32 := by omega
            have q3 : (k : Int) < 32 := by omega
            clear hR1
            rcases (show bitN k i = 0 ∨ bitN k i = 1 by omega) with c | c
            · by_cases hq : tv f.data.toList k = tv f.data.toList (holdN k i 1)
              · have hne : (((tv f.data.toList k : Nat) : Int) != ((tv f.data.toList (holdN k i 1) : Nat) : Int)) = false := by rw [hq]; simp
                have HS := Lib.hid (show snB (tv f.data.toList) k i = false by unfold snB; rw [c]; simp [hq])
                clear hq
                go_wp2_with fail
                go_quiet (fail)
                go_wp2_with fail
                go_roundw
                case rel => exact ⟨i + 1, by omega, by go_num, by rw [HR.out, HS.out]; rfl, hT, ⟨hB.os, hB.tape, hB.output, hB.size, hB.block⟩⟩
                case measure => simp [intOf]; omega
              · have hne : (((tv f.data.toList k : Nat) : Int) != ((tv f.data.toList (holdN k i 1) : Nat) : Int)) = true := by rw [bne_iff_ne]; exact fun e => hq (Int.ofNat.inj e)
                have HS := Lib.hid (show snB (tv f.data.toList) k i = true by unfold snB; rw [c]; simpa using hq)
                clear hq
                go_wp2_with fail
                go_quiet (fail)
                go_wp2_with fail
                go_roundw
                case rel => exact ⟨i + 1, by omega, by go_num, by rw [HR.out, HS.out]; go_num, hT, ⟨hB.os, hB.tape, hB.output, hB.size, hB.block⟩⟩
                case measure => simp [intOf]; omega
            · have HS := Lib.hid (show snB (tv f.data.toList) k i = false by unfold snB; rw [c]; rfl)
              have cf : (((bitN k i : Nat) : Int) == 0) = false := by rw [c]; rfl
              go_wp2_with fail
              go_quiet (fail)
              go_wp2_with fail
              go_roundw
              case rel => exact ⟨i + 1, by omega, by go_num, by rw [HR.out, HS.out]; rfl, hT, ⟨hB.os, hB.tape, hB.output, hB.size, hB.block⟩⟩
              case measure => simp [intOf]; omega
          · obtain rfl : i = n := by omega
            go_wp2_with fail
            go_roundw
            case rel => exact ⟨k + 1, by omega, by go_num, rfl, hT, hB⟩
            case measure => simp [intOf]; omega
      · obtain rfl : k = f.size := by omega
        go_wp2_with fail
        go_ret
        exact ⟨ret_int H.out.symm, hB⟩

theorem decidesAloneI (f : ByteArray) (i v : Int) (w : World) (hs : f.size ≤ maxLen) :
    Calls Try.prog 36 #[.string f, .int .i64 i, .int .i64 v] w fun e w' => e = .returned (.int .i64 (decL f.data.toList i v)) ∧ Below w.heap.size w w' := by
  cases hb : isTab f.data.toList
  · have HV := Lib.hid (rt_no _ hb)
    have H := Lib.hid (show decL f.data.toList i v = -2 by unfold decL holdOk inOk; rw [hb]; rfl)
    clear hb
    go_enter Try.func36, Try.ntmps36
    go_wp2_with (first | (go_at_call 82; (with_reducible refine (readTable _ _ hs).mono ?_); rw [HV.out]; rintro e w1 ⟨rfl, hb1⟩) | ((with_reducible refine wpList_alloc_row 67 _ zeroT ?_); (try simp only [Act.put, List.setIfInBounds_toArray, List.set_cons_succ, List.set_cons_zero, World.size_alloc, Nat.add_assoc, Nat.reduceAdd])) | ((with_reducible refine wpList_storeT_new 67 _ _ (0) _ (fun _ => 0) _ _ _ ?_ ?_ infoT ?_); (first | rfl | simp [Act.eval, Act.put]); rfl; (try simp only [Act.put, List.setIfInBounds_toArray, List.set_cons_succ, List.set_cons_zero, World.size_alloc, Nat.add_assoc, Nat.reduceAdd])) | fail)
    go_ret
    exact ⟨ret_int H.out.symm, hb1.alloc hb1.size _⟩
  · obtain ⟨n, h1, h5, hn, hlg, hz, hv⟩ := rt_yes _ hb
    have HV := Lib.hid hv
    have h0 := tcells_zero n (tv f.data.toList)
    have HZ := Lib.hid (tv_le _ hz)
    have HN := Lib.hid (show 2 ^ n = f.size from hn)
    have h32 : f.size ≤ 32 := by rw [← HN.out]; exact pow_le32 n h5
    by_cases hok : (0 ≤ i ∧ i < n) ∧ (0 ≤ v ∧ v ≤ 1)
    · have hH : holdOk f.data.toList i v = true := by unfold holdOk inOk valOk; rw [hb, hlg]; simp; omega
      obtain ⟨⟨a1, a2⟩, a3, a4⟩ := hok
      obtain ⟨i, rfl⟩ := Int.eq_ofNat_of_zero_le a1
      have hin : i < n := by omega
      have hp : 0 < f.size := by rw [← HN.out]; exact Nat.two_pow_pos n
      obtain ⟨g, hg⟩ : ∃ g : Nat → Nat, g = fun s => tv f.data.toList (holdN s i v.toNat) := ⟨_, rfl⟩
      have HG := Lib.hid hg
      have DT := Lib.hid (show constB g f.size = true → decL f.data.toList i v = ((g 0 : Nat) : Int) by rw [hg]; exact fun h => decL_true f.data.toList i v hH h)
      have DF := Lib.hid (show constB g f.size = false → decL f.data.toList i v = -1 by rw [hg]; exact fun h => decL_false f.data.toList i v hH h)
      have hle : ∀ s, g s ≤ 1 := fun s => by rw [hg]; exact HZ.out _
      have HLe := Lib.hid hle
      have hg0 := hle 0
      have hlt : ∀ s, s < f.size → holdN s i v.toNat < f.size := fun s hs => by rw [← HN.out]; exact hold_lt n s i _ h5 (by rw [HN.out]; exact hs) hin (by omega)
      have HLt := Lib.hid hlt
      have hl0 := hlt 0 hp
      have ht0 := tcells_succ n (tv f.data.toList) (holdN 0 i v.toNat) (by omega)
      rw [show tv f.data.toList (holdN 0 i v.toNat) = g 0 by rw [hg]] at ht0
      have d1 : decide ((i : Int) < 0) = false := by simp
      have d2 : decide (n ≤ i) = false := by simp; omega
      have d3 : decide (v < 0) = false := by simp; omega
      have d4 : decide (1 < v) = false := by simp; omega
      clear hb hn hlg hz hv a1 a2 hg hle hlt hH
      go_enter Try.func36, Try.ntmps36
      go_wp2_with (first | (go_at_call 82; (with_reducible refine (readTable _ _ hs).mono ?_); rw [HV.out]; rintro e w1 ⟨rfl, hb1⟩) | ((with_reducible refine wpList_alloc_row 67 _ zeroT ?_); (try simp only [Act.put, List.setIfInBounds_toArray, List.set_cons_succ, List.set_cons_zero, World.size_alloc, Nat.add_assoc, Nat.reduceAdd])) | ((with_reducible refine wpList_storeT_new 67 _ _ (n) _ (tv f.data.toList) _ _ _ ?_ ?_ infoT ?_); (first | rfl | simp [Act.eval, Act.put]); rfl; (try simp only [Act.put, List.setIfInBounds_toArray, List.set_cons_succ, List.set_cons_zero, World.size_alloc, Nat.add_assoc, Nat.reduceAdd])) | fail)
      refine (holdI 0 i v _ (by omega) (by omega) a3 a4).mono ?_
      rintro e w2 ⟨rfl, hw2⟩
      have hT : w2.heap[w1.heap.size]? = some (.cells (tcells n (tv f.data.toList)) 67 (0, 0)) := by obtain ⟨q, rfl⟩ := hw2; exact heap_alloc_new _ _
      have hB : Below w.heap.size w w2 := (hb1.alloc hb1.size _).trans ((below_draws hw2).mono (by have := hb1.size; simp; omega))
      have HT := Lib.hid hT
      have hc : w2.cell? ⟨w1.heap.size, 1 + holdN 0 i v.toNat, none⟩ = some (.int .u8 ((g 0 : Nat) : Int)) := by rw [cell_of_row _ _ _ _ _ _ hT]; exact ht0
      clear hw2 hb1 hT
      go_wp2_with (first | ((with_reducible refine wpList_loadT 67 _ (w1.heap.size) (n) (tv f.data.toList) 67 _ ?_ ?_ Try.underlying67 infoT ?_); rfl; exact (HT.out); (try simp only [Act.put, List.setIfInBounds_toArray, List.set_cons_succ, List.set_cons_zero, World.size_alloc, Nat.add_assoc, Nat.reduceAdd])) | fail)
      refine (width n _ h5 _).mono ?_
      rw [HN.out]
      rintro e w3 ⟨rfl, hb3⟩
      have HT3 : Hid (w3.heap[w1.heap.size]? = some (.cells (tcells n (tv f.data.toList)) 67 (0, 0))) := (hb3.block _ (lt_of_block HT.out)).trans HT.out
      have hB3 : Below w.heap.size w w3 := hB.trans (hb3.mono hB.size)
      clear hb3 hB HT hc
      go_wp2_with fail
      go_loopw [44] (fun j wr => ∃ k : Nat, k ≤ f.size ∧ j = .int .i64 k ∧ Hid (∀ s, s < k → g s = g 0) ∧ Hid (wr.heap[w1.heap.size]? = some (.cells (tcells n (tv f.data.toList)) 67 (0, 0))) ∧ Below w.heap.size w wr) (fun j _ => f.size - (intOf j).toNat)
      case atStart => exact ⟨0, Nat.zero_le _, rfl, fun s hs => absurd hs (by omega), HT3, hB3⟩
      case round =>
        clear HT3 hB3
        obtain ⟨k, hk, rfl, hj, hT, hB⟩ := hrel
        by_cases hltk : k < f.size
        · have hgk := HLe.out k
          have hlk := HLt.out k hltk
          have tk := tcells_succ n (tv f.data.toList) (holdN k i v.toNat) (by omega)
          rw [show tv f.data.toList (holdN k i v.toNat) = g k by rw [HG.out]] at tk
          go_wp2_with fail
          refine (holdI k i v _ (by omega) (by omega) a3 a4).mono ?_
          rintro e w4 ⟨rfl, hw4⟩
          have HT4 : Hid (w4.heap[w1.heap.size]? = some (.cells (tcells n (tv f.data.toList)) 67 (0, 0))) := by obtain ⟨q, rfl⟩ := hw4; exact hT.out
          have hB4 : Below w.heap.size w w4 := hB.trans ((below_draws hw4).mono hB.size)
          have hc : w4.cell? ⟨w1.heap.size, 1 + holdN k i v.toNat, none⟩ = some (.int .u8 ((g k : Nat) : Int)) := by rw [cell_of_row _ _ _ _ _ _ HT4.out]; exact tk
          clear hw4 hT hB tk
          by_cases hq : g k = g 0
          · have hne : (((g k : Nat) : Int) != ((g 0 : Nat) : Int)) = false := by rw [hq]; simp
            have HQ := Lib.hid hq
            clear hq
            go_wp2_with fail
            go_roundw
            case rel =>
              refine ⟨k + 1, by omega, by go_num, fun s hs => ?_, HT4, hB4⟩
              rcases Nat.lt_or_ge s k with h | h
              · exact hj.out s h
              · obtain rfl : s = k := by omega
                exact HQ.out
            case measure => simp [intOf]; omega
          · have hne : (((g k : Nat) : Int) != ((g 0 : Nat) : Int)) = true := by rw [bne_iff_ne]; exact fun e => hq (Int.ofNat.inj e)
            have HF := Lib.hid (DF.out (constB_false g f.size k hltk hq))
            clear hq
            go_wp2_with fail
            go_ret
            exact ⟨ret_int HF.out.symm, hB4⟩
        · have HR := Lib.hid (DT.out (constB_true g f.size (fun s hs => hj.out s (by omega))))
          go_wp2_with fail
          go_ret
          exact ⟨ret_int HR.out.symm, hB⟩
    · have H := Lib.hid (show decL f.data.toList i v = -2 by
        have : holdOk f.data.toList i v = false := by unfold holdOk inOk valOk; rw [hb, hlg]; simp; omega
        unfold decL; rw [this]; rfl)
      have key : ∀ (d1 d2 d3 d4 : Bool), decide (i < 0) = d1 → decide ((n : Int) ≤ i) = d2 → decide (v < 0) = d3 → decide (1 < v) = d4 → (d1 || d2 || d3 || d4) = true →
          Calls Try.prog 36 #[.string f, .int .i64 i, .int .i64 v] w fun e w' => e = .returned (.int .i64 (decL f.data.toList i v)) ∧ Below w.heap.size w w' := by
        clear hb hn hlg hz hv hok
        intro d1 d2 d3 d4 e1 e2 e3 e4 hd
        go_enter Try.func36, Try.ntmps36
        go_wp2_with fail
        refine (readTable _ _ hs).mono ?_
        rw [HV.out]
        rintro e w1 ⟨rfl, hb1⟩
        rcases d1 with _ | _ <;> rcases d2 with _ | _ <;> rcases d3 with _ | _ <;> rcases d4 with _ | _
        all_goals first
          | (exfalso; simp at hd; done)
          | (clear hd
             go_wp2_with (first | ((with_reducible refine wpList_alloc_row 67 _ zeroT ?_); (try simp only [Act.put, List.setIfInBounds_toArray, List.set_cons_succ, List.set_cons_zero, World.size_alloc, Nat.add_assoc, Nat.reduceAdd])) | ((with_reducible refine wpList_storeT_new 67 _ _ (n) _ (tv f.data.toList) _ _ _ ?_ ?_ infoT ?_); (first | rfl | simp [Act.eval, Act.put]); rfl; (try simp only [Act.put, List.setIfInBounds_toArray, List.set_cons_succ, List.set_cons_zero, World.size_alloc, Nat.add_assoc, Nat.reduceAdd])) | fail)
             go_ret
             exact ⟨ret_int H.out.symm, hb1.alloc hb1.size _⟩)
      refine key _ _ _ _ rfl rfl rfl rfl ?_
      simp; omega

end Go.Proofs.Ytjpkpdihldcdaaa
