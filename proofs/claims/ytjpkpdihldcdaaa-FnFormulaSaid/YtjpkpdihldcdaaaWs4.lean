/- Walks: the reference's functions on two tables, on a held input, on signs. -/
import Derived.Test.YtjpkpdihldcdaaaPd
import Derived.Test.YtjpkpdihldcdaaaWs3
namespace Go.Proofs.Ytjpkpdihldcdaaa
set_option linter.unusedVariables false
set_option linter.unusedSimpArgs false
open Go.RowKit

theorem l1SetS (s i : Nat) (v : Int) (w : World) (hs : s < 32) (hi : i < 5) (h0 : 0 ≤ v) (h1 : v ≤ 1) :
    Calls Try.prog 99 #[.int .i64 (s : Int), .int .i64 (i : Int), .int .i64 v] w fun e w' => e = .returned (.int .i64 ((holdN s i v.toNat : Nat) : Int)) ∧ w = w' := by
  have E := Lib.hid (hold_bits s i v hs hi h0 h1)
  go_enter Try.func99, Try.ntmps99
  go_wp2
  go_ret
  exact ⟨ret_int E.out, rfl⟩

theorem l1BothS (f g : ByteArray) (w : World) (hf : f.size ≤ maxLen) (hg : g.size ≤ maxLen) :
    Calls Try.prog 94 #[.string f, .string g] w fun e w' => e = .returned (.bool (bothOk f.data.toList g.data.toList)) ∧ w = w' := by
  cases h1 : isTab f.data.toList
  · have H := Lib.hid (show bothOk f.data.toList g.data.toList = false by unfold bothOk; rw [h1]; rfl)
    go_enter Try.func94, Try.ntmps94
    go_wp2_with fail
    refine (tableValidS _ _ hf).mono ?_
    rw [h1]
    rintro e w' ⟨rfl, rfl⟩
    go_wp2_with fail
    go_ret
    exact ⟨ret_bool H.out.symm, rfl⟩
  cases h2 : isTab g.data.toList
  · have H := Lib.hid (show bothOk f.data.toList g.data.toList = false by unfold bothOk; rw [h1, h2]; rfl)
    go_enter Try.func94, Try.ntmps94
    go_wp2_with fail
    refine (tableValidS _ _ hf).mono ?_
    rw [h1]
    rintro e w' ⟨rfl, rfl⟩
    go_wp2_with fail
    refine (tableValidS _ _ hg).mono ?_
    rw [h2]
    rintro e w' ⟨rfl, rfl⟩
    go_wp2_with fail
    go_ret
    exact ⟨ret_bool H.out.symm, rfl⟩
  · have H := Lib.hid (show bothOk f.data.toList g.data.toList = ((f.size : Int) == (g.size : Int)) by
      unfold bothOk; rw [h1, h2, Bool.true_and, Bool.true_and, Bool.eq_iff_iff]; simp only [decide_eq_true_eq, beq_iff_eq]; exact ⟨fun h => congrArg Int.ofNat h, fun h => Int.ofNat.inj h⟩)
    go_enter Try.func94, Try.ntmps94
    go_wp2_with fail
    refine (tableValidS _ _ hf).mono ?_
    rw [h1]
    rintro e w' ⟨rfl, rfl⟩
    go_wp2_with fail
    refine (tableValidS _ _ hg).mono ?_
    rw [h2]
    rintro e w' ⟨rfl, rfl⟩
    go_wp2_with fail
    go_ret
    exact ⟨ret_bool H.out.symm, rfl⟩

theorem andTablesS (f g : ByteArray) (w : World) (hf : f.size ≤ maxLen) (hg : g.size ≤ maxLen) :
    Calls Try.prog 25 #[.string f, .string g] w fun e w' => e = .returned (.tuple #[.string (strI (bothOk f.data.toList g.data.toList) (andL f.data.toList g.data.toList)), .bool (bothOk f.data.toList g.data.toList)]) ∧ Below w.heap.size w w' := by
  cases hb : bothOk f.data.toList g.data.toList
  · go_enter Try.func25, Try.ntmps25
    go_wp2_with (first | ((with_reducible refine wpList_empty 44 3 (.int .i64 0) 8 Try.underlying44 infoI ?_); intro w1 hown1 hg1 hz1; (try simp only [Act.put, List.setIfInBounds_toArray, List.set_cons_succ, List.set_cons_zero, World.size_alloc, Nat.add_assoc, Nat.reduceAdd])) | fail)
    refine (l1BothS _ _ _ hf hg).mono ?_
    rw [hb]
    rintro e w' ⟨rfl, rfl⟩
    go_wp2_with fail
    go_ret2
    exact ⟨rfl, (Below.refl _ _).grown hg1 (Nat.le_refl _) (fun k hk => by cases hk)⟩
  · have hb' := hb
    unfold bothOk at hb'
    simp only [Bool.and_eq_true, decide_eq_true_eq] at hb'
    obtain ⟨n, h1, h5, hn, hlg, hz, hv⟩ := rt_yes _ hb'.1
    obtain ⟨_, _, _, _, _, hz2, _⟩ := rt_yes _ hb'.2.1
    have hl : f.size ≤ 32 := by have := pow_le32 n h5; rw [hn] at this; exact this
    have HL := Lib.hid (show f.size = g.size from hb'.2.2)
    have HZ := Lib.hid hz
    have HZ2 := Lib.hid hz2
    have hlg' : f.size ≤ g.size := by have := HL.out; omega
    clear hn hlg hz hv hb' hz2
    go_enter Try.func25, Try.ntmps25
    go_wp2_with (first | ((with_reducible refine wpList_empty 44 3 (.int .i64 0) 8 Try.underlying44 infoI ?_); intro w1 hown1 hg1 hz1; (try simp only [Act.put, List.setIfInBounds_toArray, List.set_cons_succ, List.set_cons_zero, World.size_alloc, Nat.add_assoc, Nat.reduceAdd])) | fail)
    refine (l1BothS _ _ _ hf hg).mono ?_
    rw [hb]
    rintro e w' ⟨rfl, rfl⟩
    go_wp2_with fail
    go_loopw [6, 7] (fun v j wr => ∃ k : Nat, k ≤ f.size ∧ j = .int .i64 k ∧ wr.ownsRow w.heap.size 3 1 v k (intsV (fun s => tv f.data.toList s * tv g.data.toList s) k) ∧ Below w.heap.size w wr) (fun _ j _ => f.size - (intOf j).toNat)
    case atStart => exact ⟨0, Nat.zero_le _, rfl, hown1, (Below.refl _ _).grown hg1 (Nat.le_refl _) (fun k hk => by cases hk)⟩
    case round =>
      clear hown1 hg1 hz1
      obtain ⟨k, hk, rfl, hown, hB⟩ := hrel
      by_cases hlt : k < f.size
      · have a1 := tv_le _ HZ.out k
        have a2 := tv_le _ HZ2.out k
        have hlt2 : k < g.size := by omega
        go_wp2_with fail
        refine (l1AtS f k _ hlt HZ.out).mono ?_
        rintro e w' ⟨rfl, rfl⟩
        go_wp2_with fail
        refine (l1AtS g k _ hlt2 HZ2.out).mono ?_
        rintro e w' ⟨rfl, rfl⟩
        rcases (show tv f.data.toList k = 0 ∨ tv f.data.toList k = 1 by omega) with c1 | c1 <;> rcases (show tv g.data.toList k = 0 ∨ tv g.data.toList k = 1 by omega) with c2 | c2
        all_goals
          go_wp2_with (first | ((with_reducible refine wpList_push 44 3 _ _ (w.heap.size) (k) 8 (u6) (.int .i64 0) (.int .i64 0) (_) Try.underlying44 infoI rfl rfl rfl ?_ ?_ ?_ (hown) (hB.size) (by omega) (by decide) ?_); rfl; rfl; rfl; intro v2 w2 hown2 hg2 hat2 hbel2; (try simp only [Act.put, List.setIfInBounds_toArray, List.set_cons_succ, List.set_cons_zero, World.size_alloc, Nat.add_assoc, Nat.reduceAdd])) | ((with_reducible refine wpList_push 44 3 _ _ (w.heap.size) (k) 8 (u6) (.int .i64 1) (.int .i64 0) (_) Try.underlying44 infoI rfl rfl rfl ?_ ?_ ?_ (hown) (hB.size) (by omega) (by decide) ?_); rfl; rfl; rfl; intro v2 w2 hown2 hg2 hat2 hbel2; (try simp only [Act.put, List.setIfInBounds_toArray, List.set_cons_succ, List.set_cons_zero, World.size_alloc, Nat.add_assoc, Nat.reduceAdd])) | fail)
          go_roundw
          case rel => exact ⟨k + 1, by omega, by go_num, by rw [intsV_succ, c1, c2]; exact hown2, below_grown hB hbel2 (Nat.le_refl _)⟩
          case measure => simp [intOf]; omega
      · obtain rfl : k = f.size := by omega
        go_wp2_with (first | (go_at_call 95; (with_reducible refine (l1TextS ((List.range (f.size)).map (fun s => tv f.data.toList s * tv g.data.toList s)) _ _ (range01 _ _ (fun s _ => Nat.mul_le_mul (tv_le _ HZ.out s) (tv_le _ HZ2.out s))) (by simp; omega) (Row.of_own hown)).mono ?_); rintro e w3 ⟨rfl, hb3⟩) | fail)
        go_ret2
        refine ⟨?_, hB.trans (hb3.mono hB.size)⟩
        rw [digs_txt, strI_true, andL]
        rfl

theorem orTablesS (f g : ByteArray) (w : World) (hf : f.size ≤ maxLen) (hg : g.size ≤ maxLen) :
    Calls Try.prog 27 #[.string f, .string g] w fun e w' => e = .returned (.tuple #[.string (strI (bothOk f.data.toList g.data.toList) (orL f.data.toList g.data.toList)), .bool (bothOk f.data.toList g.data.toList)]) ∧ Below w.heap.size w w' := by
  cases hb : bothOk f.data.toList g.data.toList
  · go_enter Try.func27, Try.ntmps27
    go_wp2_with (first | ((with_reducible refine wpList_empty 44 3 (.int .i64 0) 8 Try.underlying44 infoI ?_); intro w1 hown1 hg1 hz1; (try simp only [Act.put, List.setIfInBounds_toArray, List.set_cons_succ, List.set_cons_zero, World.size_alloc, Nat.add_assoc, Nat.reduceAdd])) | fail)
    refine (l1BothS _ _ _ hf hg).mono ?_
    rw [hb]
    rintro e w' ⟨rfl, rfl⟩
    go_wp2_with fail
    go_ret2
    exact ⟨rfl, (Below.refl _ _).grown hg1 (Nat.le_refl _) (fun k hk => by cases hk)⟩
  · have hb' := hb
    unfold bothOk at hb'
    simp only [Bool.and_eq_true, decide_eq_true_eq] at hb'
    obtain ⟨n, h1, h5, hn, hlg, hz, hv⟩ := rt_yes _ hb'.1
    obtain ⟨_, _, _, _, _, hz2, _⟩ := rt_yes _ hb'.2.1
    have hl : f.size ≤ 32 := by have := pow_le32 n h5; rw [hn] at this; exact this
    have HL := Lib.hid (show f.size = g.size from hb'.2.2)
    have HZ := Lib.hid hz
    have HZ2 := Lib.hid hz2
    have hlg' : f.size ≤ g.size := by have := HL.out; omega
    clear hn hlg hz hv hb' hz2
    go_enter Try.func27, Try.ntmps27
    go_wp2_with (first | ((with_reducible refine wpList_empty 44 3 (.int .i64 0) 8 Try.underlying44 infoI ?_); intro w1 hown1 hg1 hz1; (try simp only [Act.put, List.setIfInBounds_toArray, List.set_cons_succ, List.set_cons_zero, World.size_alloc, Nat.add_assoc, Nat.reduceAdd])) | fail)
    refine (l1BothS _ _ _ hf hg).mono ?_
    rw [hb]
    rintro e w' ⟨rfl, rfl⟩
    go_wp2_with fail
    go_loopw [6, 7] (fun v j wr => ∃ k : Nat, k ≤ f.size ∧ j = .int .i64 k ∧ wr.ownsRow w.heap.size 3 1 v k (intsV (fun s => max (tv f.data.toList s) (tv g.data.toList s)) k) ∧ Below w.heap.size w wr) (fun _ j _ => f.size - (intOf j).toNat)
    case atStart => exact ⟨0, Nat.zero_le _, rfl, hown1, (Below.refl _ _).grown hg1 (Nat.le_refl _) (fun k hk => by cases hk)⟩
    case round =>
      clear hown1 hg1 hz1
      obtain ⟨k, hk, rfl, hown, hB⟩ := hrel
      by_cases hlt : k < f.size
      · have a1 := tv_le _ HZ.out k
        have a2 := tv_le _ HZ2.out k
        have hlt2 : k < g.size := by omega
        go_wp2_with fail
        refine (l1AtS f k _ hlt HZ.out).mono ?_
        rintro e w' ⟨rfl, rfl⟩
        go_wp2_with fail
        refine (l1AtS g k _ hlt2 HZ2.out).mono ?_
        rintro e w' ⟨rfl, rfl⟩
        rcases (show tv f.data.toList k = 0 ∨ tv f.data.toList k = 1 by omega) with c1 | c1 <;> rcases (show tv g.data.toList k = 0 ∨ tv g.data.toList k = 1 by omega) with c2 | c2
        all_goals
          go_wp2_with (first | ((with_reducible refine wpList_push 44 3 _ _ (w.heap.size) (k) 8 (u6) (.int .i64 0) (.int .i64 0) (_) Try.underlying44 infoI rfl rfl rfl ?_ ?_ ?_ (hown) (hB.size) (by omega) (by decide) ?_); rfl; rfl; rfl; intro v2 w2 hown2 hg2 hat2 hbel2; (try simp only [Act.put, List.setIfInBounds_toArray, List.set_cons_succ, List.set_cons_zero, World.size_alloc, Nat.add_assoc, Nat.reduceAdd])) | ((with_reducible refine wpList_push 44 3 _ _ (w.heap.size) (k) 8 (u6) (.int .i64 1) (.int .i64 0) (_) Try.underlying44 infoI rfl rfl rfl ?_ ?_ ?_ (hown) (hB.size) (by omega) (by decide) ?_); rfl; rfl; rfl; intro v2 w2 hown2 hg2 hat2 hbel2; (try simp only [Act.put, List.setIfInBounds_toArray, List.set_cons_succ, List.set_cons_zero, World.size_alloc, Nat.add_assoc, Nat.reduceAdd])) | fail)
          go_roundw
          case rel => exact ⟨k + 1, by omega, by go_num, by rw [intsV_succ, c1, c2]; exact hown2, below_grown hB hbel2 (Nat.le_refl _)⟩
          case measure => simp [intOf]; omega
      · obtain rfl : k = f.size := by omega
        go_wp2_with (first | (go_at_call 95; (with_reducible refine (l1TextS ((List.range (f.size)).map (fun s => max (tv f.data.toList s) (tv g.data.toList s))) _ _ (range01 _ _ (fun s _ => Nat.max_le.2 ⟨tv_le _ HZ.out s, tv_le _ HZ2.out s⟩)) (by simp; omega) (Row.of_own hown)).mono ?_); rintro e w3 ⟨rfl, hb3⟩) | fail)
        go_ret2
        refine ⟨?_, hB.trans (hb3.mono hB.size)⟩
        rw [digs_txt, strI_true, orL]
        rfl

theorem l1HoldS (f : ByteArray) (n i : Nat) (v : Int) (w : World) (h5 : n ≤ 5) (hn : 2 ^ n = f.size) (hi : i < n) (h0 : 0 ≤ v) (h1 : v ≤ 1) (hz : f.data.toList.all zb = true) :
    Calls Try.prog 106 #[.string f, .int .i64 (i : Int), .int .i64 v] w fun e w' => e = .returned (.string ⟨(holdL f.data.toList i v.toNat).toArray⟩) ∧ Below w.heap.size w w' := by
  have HZ := Lib.hid hz
  have HN := Lib.hid hn
  have h32 : f.size ≤ 32 := by rw [← hn]; exact pow_le32 n h5
  clear hz hn
  go_enter Try.func106, Try.ntmps106
  go_wp2_with (first | ((with_reducible refine wpList_empty 44 3 (.int .i64 0) 8 Try.underlying44 infoI ?_); intro w1 hown1 hg1 hz1; (try simp only [Act.put, List.setIfInBounds_toArray, List.set_cons_succ, List.set_cons_zero, World.size_alloc, Nat.add_assoc, Nat.reduceAdd])) | fail)
  go_loopw [7, 8] (fun u j wr => ∃ k : Nat, k ≤ f.size ∧ j = .int .i64 k ∧ wr.ownsRow w.heap.size 3 1 u k (intsV (fun s => tv f.data.toList (holdN s i v.toNat)) k) ∧ Below w.heap.size w wr) (fun _ j _ => f.size - (intOf j).toNat)
  case atStart => exact ⟨0, Nat.zero_le _, rfl, hown1, (Below.refl _ _).grown hg1 (Nat.le_refl _) (fun k hk => by cases hk)⟩
  case round =>
    clear hown1 hg1 hz1
    obtain ⟨k, hk, rfl, hown, hB⟩ := hrel
    by_cases hlt : k < f.size
    · have hh : holdN k i v.toNat < f.size := by rw [← HN.out]; exact hold_lt n k i _ h5 (by rw [HN.out]; exact hlt) hi (by omega)
      go_wp2_with fail
      refine (l1SetS k i v _ (by omega) (by omega) h0 h1).mono ?_
      rintro e w' ⟨rfl, rfl⟩
      go_wp2_with fail
      refine (l1AtS f _ _ hh HZ.out).mono ?_
      rintro e w' ⟨rfl, rfl⟩
      go_wp2_with (first | ((with_reducible refine wpList_push 44 3 _ _ (w.heap.size) (k) 8 (u7) (.int .i64 ((tv f.data.toList (holdN k i v.toNat) : Nat) : Int)) (.int .i64 0) (_) Try.underlying44 infoI rfl rfl rfl ?_ ?_ ?_ (hown) (hB.size) (by omega) (by decide) ?_); rfl; rfl; rfl; intro v2 w2 hown2 hg2 hat2 hbel2; (try simp only [Act.put, List.setIfInBounds_toArray, List.set_cons_succ, List.set_cons_zero, World.size_alloc, Nat.add_assoc, Nat.reduceAdd])) | fail)
      go_roundw
      case rel => exact ⟨k + 1, by omega, by go_num, by rw [intsV_succ]; exact hown2, below_grown hB hbel2 (Nat.le_refl _)⟩
      case measure => simp [intOf]; omega
    · obtain rfl : k = f.size := by omega
      go_wp2_with (first | (go_at_call 95; (with_reducible refine (l1TextS ((List.range (f.size)).map (fun s => tv f.data.toList (holdN s i v.toNat))) _ _ (range01 _ _ (fun s _ => tv_le _ HZ.out _)) (by simp; omega) (Row.of_own hown)).mono ?_); rintro e w3 ⟨rfl, hb3⟩) | fail)
      go_ret
      refine ⟨ret_str ?_, hB.trans (hb3.mono hB.size)⟩
      rw [digs_txt, holdL]
      rfl

theorem l1InputS (f : ByteArray) (i : Int) (w : World) (hf : f.size ≤ maxLen) :
    Calls Try.prog 103 #[.string f, .int .i64 i] w fun e w' => e = .returned (.bool (inOk f.data.toList i)) ∧ w = w' := by
  cases h1 : isTab f.data.toList
  · have H := Lib.hid (show inOk f.data.toList i = false by unfold inOk; rw [h1]; rfl)
    go_enter Try.func103, Try.ntmps103
    go_wp2_with fail
    refine (tableValidS _ _ hf).mono ?_
    rw [h1]
    rintro e w' ⟨rfl, rfl⟩
    go_wp2_with fail
    go_ret
    exact ⟨ret_bool H.out.symm, rfl⟩
  · obtain ⟨n, g1, g5, hn, hlg, hz, hv⟩ := rt_yes _ h1
    have HI := Lib.hid (show inpN f.size = (n : Int) from inpN_pow _ n g1 g5 hn.symm)
    have H := Lib.hid (show inOk f.data.toList i = (decide (0 ≤ i) && decide (i ≤ (n : Int) - 1)) by unfold inOk; rw [h1, hlg]; rfl)
    clear hn hlg hz hv
    go_enter Try.func103, Try.ntmps103
    go_wp2_with fail
    refine (tableValidS _ _ hf).mono ?_
    rw [h1]
    rintro e w' ⟨rfl, rfl⟩
    go_wp2_with fail
    refine (l1InputsS _ _ hf).mono ?_
    rw [HI.out]
    rintro e w' ⟨rfl, rfl⟩
    go_wp2_with fail
    refine (l1In _ _ _ _).mono ?_
    rintro e w' ⟨rfl, rfl⟩
    go_wp2_with fail
    go_ret
    exact ⟨ret_bool H.out.symm, rfl⟩

theorem holdInputS (f : ByteArray) (i v : Int) (w : World) (hf : f.size ≤ maxLen) :
    Calls Try.prog 48 #[.string f, .int .i64 i, .int .i64 v] w fun e w' => e = .returned (.tuple #[.string (strI (holdOk f.data.toList i v) (holdL f.data.toList i.toNat v.toNat)), .bool (holdOk f.data.toList i v)]) ∧ Below w.heap.size w w' := by
  cases h1 : inOk f.data.toList i
  · have H := Lib.hid (show holdOk f.data.toList i v = false by unfold holdOk; rw [h1]; rfl)
    go_enter Try.func48, Try.ntmps48
    go_wp2_with fail
    refine (l1InputS _ _ _ hf).mono ?_
    rw [h1]
    rintro e w' ⟨rfl, rfl⟩
    go_wp2_with fail
    go_ret2
    exact ⟨by rw [H.out]; rfl, Below.refl _ _⟩
  cases h2 : (decide (0 ≤ v) && decide (v ≤ 1))
  · have H := Lib.hid (show holdOk f.data.toList i v = false by unfold holdOk valOk; rw [h1, h2]; rfl)
    go_enter Try.func48, Try.ntmps48
    go_wp2_with fail
    refine (l1InputS _ _ _ hf).mono ?_
    rw [h1]
    rintro e w' ⟨rfl, rfl⟩
    go_wp2_with fail
    refine (l1ValueS _ _).mono ?_
    rw [h2]
    rintro e w' ⟨rfl, rfl⟩
    go_wp2_with fail
    go_ret2
    exact ⟨by rw [H.out]; rfl, Below.refl _ _⟩
  · have H := Lib.hid (show holdOk f.data.toList i v = true by unfold holdOk valOk; rw [h1, h2]; rfl)
    obtain ⟨n, k, g5, hn, hk, rfl, hz⟩ := inOk_yes _ _ h1
    have g2 := h2
    simp only [Bool.and_eq_true, decide_eq_true_eq] at g2
    have HN := Lib.hid hn
    have HZ := Lib.hid hz
    clear hn hz
    go_enter Try.func48, Try.ntmps48
    go_wp2_with fail
    refine (l1InputS _ _ _ hf).mono ?_
    rw [h1]
    rintro e w' ⟨rfl, rfl⟩
    go_wp2_with fail
    refine (l1ValueS _ _).mono ?_
    rw [h2]
    rintro e w' ⟨rfl, rfl⟩
    go_wp2_with fail
    refine (l1HoldS f n k v _ g5 HN.out hk g2.1 g2.2 HZ.out).mono ?_
    rintro e w1 ⟨rfl, hb1⟩
    go_wp2_with fail
    go_ret2
    exact ⟨by rw [H.out]; rfl, hb1⟩

end Go.Proofs.Ytjpkpdihldcdaaa
