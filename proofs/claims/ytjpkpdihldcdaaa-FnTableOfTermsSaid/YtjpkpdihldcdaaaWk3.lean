/- Walks: implicants, tables of terms. -/
import Derived.Test.YtjpkpdihldcdaaaWp
import Derived.Test.YtjpkpdihldcdaaaWs3
import Derived.Test.YtjpkpdihldcdaaaWs4
namespace Go.Proofs.Ytjpkpdihldcdaaa
set_option linter.unusedVariables false
set_option linter.unusedSimpArgs false
open Go.RowKit

theorem isImplicantI (f t : ByteArray) (w : World) (hs : f.size ≤ maxLen) (ht : t.size ≤ maxLen) :
    Calls Try.prog 46 #[.string f, .string t] w fun e w' => e = .returned (.bool (impV f.data.toList t.data.toList)) ∧ Below w.heap.size w w' := by
  cases hb : isTab f.data.toList
  · have HV := Lib.hid (rt_no _ hb)
    have H := Lib.hid (show impV f.data.toList t.data.toList = false by unfold impV; rw [hb]; rfl)
    clear hb
    go_enter Try.func46, Try.ntmps46
    go_wp2_with (first | (go_at_call 82; (with_reducible refine (readTable _ _ hs).mono ?_); rw [HV.out]; rintro e w1 ⟨rfl, hb1⟩) | ((with_reducible refine wpList_alloc_row 67 _ zeroT ?_); (try simp only [Act.put, List.setIfInBounds_toArray, List.set_cons_succ, List.set_cons_zero, World.size_alloc, Nat.add_assoc, Nat.reduceAdd])) | ((with_reducible refine wpList_storeT_new 67 _ _ (0) _ (fun _ => 0) _ _ _ ?_ ?_ infoT ?_); (first | rfl | simp [Act.eval, Act.put]); rfl; (try simp only [Act.put, List.setIfInBounds_toArray, List.set_cons_succ, List.set_cons_zero, World.size_alloc, Nat.add_assoc, Nat.reduceAdd])) | fail)
    go_ret
    exact ⟨ret_bool H.out.symm, hb1.alloc hb1.size _⟩
  obtain ⟨n, h1, h5, hn, hlg, hz, hv⟩ := rt_yes _ hb
  have HV := Lib.hid hv
  have h0 := tcells_zero n (tv f.data.toList)
  have HZ := Lib.hid (tv_le _ hz)
  have HN := Lib.hid (show 2 ^ n = f.size from hn)
  cases h2 : isTerm t.data.toList n
  · have H := Lib.hid (show impV f.data.toList t.data.toList = false by unfold impV; rw [hb, hlg, h2]; rfl)
    clear hb hn hlg hz hv
    go_enter Try.func46, Try.ntmps46
    go_wp2_with (first | (go_at_call 82; (with_reducible refine (readTable _ _ hs).mono ?_); rw [HV.out]; rintro e w1 ⟨rfl, hb1⟩) | ((with_reducible refine wpList_alloc_row 67 _ zeroT ?_); (try simp only [Act.put, List.setIfInBounds_toArray, List.set_cons_succ, List.set_cons_zero, World.size_alloc, Nat.add_assoc, Nat.reduceAdd])) | ((with_reducible refine wpList_storeT_new 67 _ _ (n) _ (tv f.data.toList) _ _ _ ?_ ?_ infoT ?_); (first | rfl | simp [Act.eval, Act.put]); rfl; (try simp only [Act.put, List.setIfInBounds_toArray, List.set_cons_succ, List.set_cons_zero, World.size_alloc, Nat.add_assoc, Nat.reduceAdd])) | fail)
    refine (termValidI _ _ _ ht).mono ?_
    rw [h2]
    rintro e w' ⟨rfl, rfl⟩
    go_wp2_with fail
    go_ret
    exact ⟨ret_bool H.out.symm, hb1.alloc hb1.size _⟩
  · have H := Lib.hid (show impV f.data.toList t.data.toList = impB (tv f.data.toList) f.size t.data.toList by unfold impV; rw [hb, hlg, h2, Bool.true_and, Bool.true_and]; rfl)
    obtain ⟨l1, l2, l3, l4⟩ := isTerm_len _ _ h2
    have ht5 : t.size ≤ 5 := by have : (t.size : Int) = n := l1; omega
    have HTb := Lib.hid l4
    clear hb hn hlg hz hv l1 l2 l3 l4
    go_enter Try.func46, Try.ntmps46
    go_wp2_with (first | (go_at_call 82; (with_reducible refine (readTable _ _ hs).mono ?_); rw [HV.out]; rintro e w1 ⟨rfl, hb1⟩) | ((with_reducible refine wpList_alloc_row 67 _ zeroT ?_); (try simp only [Act.put, List.setIfInBounds_toArray, List.set_cons_succ, List.set_cons_zero, World.size_alloc, Nat.add_assoc, Nat.reduceAdd])) | ((with_reducible refine wpList_storeT_new 67 _ _ (n) _ (tv f.data.toList) _ _ _ ?_ ?_ infoT ?_); (first | rfl | simp [Act.eval, Act.put]); rfl; (try simp only [Act.put, List.setIfInBounds_toArray, List.set_cons_succ, List.set_cons_zero, World.size_alloc, Nat.add_assoc, Nat.reduceAdd])) | fail)
    refine (termValidI _ _ _ ht).mono ?_
    rw [h2]
    rintro e w' ⟨rfl, rfl⟩
    go_wp2_with (first | ((with_reducible refine wpList_loadTg 67 _ (w1.heap.size) (n) (tv f.data.toList) 67 _ ?_ ?_ ?_ Try.underlying67 infoT ?_); rfl; rfl; exact (heap_alloc_new _ _); (try simp only [Act.put, List.setIfInBounds_toArray, List.set_cons_succ, List.set_cons_zero, World.size_alloc, Nat.add_assoc, Nat.reduceAdd])) | fail)
    refine (impliesI n f.size _ t _ h5 HN.out HZ.out ht5 HTb.out).mono ?_
    rintro e w2 ⟨rfl, hb2⟩
    have hB : Below w.heap.size w w2 := (hb1.alloc hb1.size _).trans (hb2.mono (by have := hb1.size; simp; omega))
    clear hb1 hb2
    go_wp2_with fail
    go_ret
    exact ⟨ret_bool H.out.symm, hB⟩

theorem l2TableS (t : ByteArray) (w : World) (ht : t.size ≤ 5) (htb : t.data.toList.all tb = true) :
    Calls Try.prog 111 #[.string t] w fun e w' => e = .returned (.string ⟨(termL t.data.toList).toArray⟩) ∧ Below w.heap.size w w' := by
  have HT := Lib.hid htb
  have hp := wrap_pow t.size ht
  have hm32 := pow_le32 t.size ht
  obtain ⟨m, hm⟩ : ∃ m, m = 2 ^ t.size := ⟨_, rfl⟩
  rw [← hm] at hp hm32
  have HM := Lib.hid hm
  clear htb hm
  go_enter Try.func111, Try.ntmps111
  go_wp2_with (first | ((with_reducible refine wpList_empty 44 3 (.int .i64 0) 8 Try.underlying44 infoI ?_); intro w1 hown1 hg1 hz1; (try simp only [Act.put, List.setIfInBounds_toArray, List.set_cons_succ, List.set_cons_zero, World.size_alloc, Nat.add_assoc, Nat.reduceAdd])) | fail)
  go_loopw [3, 4] (fun v j wr => ∃ k : Nat, k ≤ m ∧ j = .int .i64 k ∧ wr.ownsRow w.heap.size 3 1 v k (intsV (hasV t.data.toList) k) ∧ Below w.heap.size w wr) (fun _ j _ => m - (intOf j).toNat)
  case atStart => exact ⟨0, Nat.zero_le _, rfl, hown1, (Below.refl _ _).grown hg1 (Nat.le_refl _) (fun k hk => by cases hk)⟩
  case round =>
    clear hown1 hg1 hz1
    obtain ⟨k, hk, rfl, hown, hB⟩ := hrel
    by_cases hlt : k < m
    · go_wp2_with fail
      refine (l2HasS t k _ ht (by omega) HT.out).mono ?_
      rintro e w1 ⟨rfl, hw1⟩
      have hown' := own_below hown (below_draws2 hw1)
      have hB1 := hB.trans ((below_draws2 hw1).mono hB.size)
      clear hown hB hw1
      cases hh : hasN t.data.toList k
      · have HV := Lib.hid (show hasV t.data.toList k = 0 by unfold hasV; rw [hh]; rfl)
        clear hh
        go_wp2_with (first | ((with_reducible refine wpList_push 44 3 _ _ (w.heap.size) (k) 8 (u3) (.int .i64 0) (.int .i64 0) (_) Try.underlying44 infoI rfl rfl rfl ?_ ?_ ?_ (hown') (hB1.size) (by omega) (by decide) ?_); rfl; rfl; rfl; intro v2 w2 hown2 hg2 hat2 hbel2; (try simp only [Act.put, List.setIfInBounds_toArray, List.set_cons_succ, List.set_cons_zero, World.size_alloc, Nat.add_assoc, Nat.reduceAdd])) | fail)
        go_roundw
        case rel => exact ⟨k + 1, by omega, by go_num, by rw [intsV_succ, HV.out]; exact hown2, below_grown hB1 hbel2 (Nat.le_refl _)⟩
        case measure => simp [intOf]; omega
      · have HV := Lib.hid (show hasV t.data.toList k = 1 by unfold hasV; rw [hh]; rfl)
        clear hh
        go_wp2_with (first | ((with_reducible refine wpList_push 44 3 _ _ (w.heap.size) (k) 8 (u3) (.int .i64 1) (.int .i64 0) (_) Try.underlying44 infoI rfl rfl rfl ?_ ?_ ?_ (hown') (hB1.size) (by omega) (by decide) ?_); rfl; rfl; rfl; intro v2 w2 hown2 hg2 hat2 hbel2; (try simp only [Act.put, List.setIfInBounds_toArray, List.set_cons_succ, List.set_cons_zero, World.size_alloc, Nat.add_assoc, Nat.reduceAdd])) | fail)
        go_roundw
        case rel => exact ⟨k + 1, by omega, by go_num, by rw [intsV_succ, HV.out]; exact hown2, below_grown hB1 hbel2 (Nat.le_refl _)⟩
        case measure => simp [intOf]; omega
    · obtain rfl : k = m := by omega
      go_wp2_with (first | (go_at_call 95; (with_reducible refine (l1TextS ((List.range (k)).map (hasV t.data.toList)) _ _ (range01 _ _ (fun s _ => hasV_le _ s)) (by simp; omega) (Row.of_own hown)).mono ?_); rintro e w3 ⟨rfl, hb3⟩) | fail)
      go_ret
      refine ⟨ret_str ?_, hB.trans (hb3.mono hB.size)⟩
      rw [digs_txt, termL, show t.data.toList.length = t.size from rfl, ← HM.out]

theorem termTableS (t : ByteArray) (w : World) (ht : t.size ≤ maxLen) :
    Calls Try.prog 42 #[.string t] w fun e w' => e = .returned (.tuple #[.string (strI (isTerm t.data.toList t.size) (termL t.data.toList)), .bool (isTerm t.data.toList t.size)]) ∧ Below w.heap.size w w' := by
  cases h1 : isTerm t.data.toList t.size
  · go_enter Try.func42, Try.ntmps42
    go_wp2_with fail
    refine (termValidS _ _ _ ht).mono ?_
    rw [h1]
    rintro e w' ⟨rfl, rfl⟩
    go_wp2_with fail
    go_ret2
    exact ⟨rfl, Below.refl _ _⟩
  · obtain ⟨l1, l2, l3, l4⟩ := isTerm_len _ _ h1
    have ht5 : t.size ≤ 5 := by omega
    have HTb := Lib.hid l4
    clear l1 l2 l3 l4
    go_enter Try.func42, Try.ntmps42
    go_wp2_with fail
    refine (termValidS _ _ _ ht).mono ?_
    rw [h1]
    rintro e w' ⟨rfl, rfl⟩
    go_wp2_with fail
    refine (l2TableS t _ ht5 HTb.out).mono ?_
    rintro e w1 ⟨rfl, hb1⟩
    go_wp2_with fail
    go_ret2
    exact ⟨rfl, hb1⟩

theorem tot11 (b s : Nat) (t : List UInt8) (w : World) (hs : s ≤ 65536) (ht : t.length ≤ 5) (htb : t.all tb = true) (hc : w.cell? ⟨b, 0, none⟩ = some (.int .i64 (s : Int))) :
    Calls Try.prog 123 #[.string ⟨t.toArray⟩, .pointer (some ⟨b, 0, none⟩)] w fun e w' => e = .returned (.bool (hasN t s)) ∧ Below w.heap.size w w' := by
  have HT := Lib.hid htb
  clear htb
  go_enter Try.func123, Try.ntmps123
  go_wp2_with fail
  refine (hasStateI ⟨t.toArray⟩ s _ ht hs HT.out).mono ?_
  rintro e w1 ⟨rfl, hw1⟩
  have hb1 := below_draws2 hw1
  clear hw1
  go_wp2_with fail
  go_ret
  exact ⟨rfl, hb1⟩

theorem tot1 (b s : Nat) (v : Value) (ts : List (List UInt8)) (w : World) (hs : s ≤ 65536) (hl : ts.length ≤ 1048576) (hts : ∀ t ∈ ts, t.length ≤ 5 ∧ t.all tb = true) (hbl : b < w.heap.size) (hc : w.cell? ⟨b, 0, none⟩ = some v) (hr : Row w v (textsV ts)) :
    Calls Try.prog 121 #[.int .i64 (s : Int), .pointer (some ⟨b, 0, none⟩)] w fun e w' => e = .returned (.int .u8 ((anyV ts s : Nat) : Int)) ∧ Below w.heap.size w w' := by
  have HTS := Lib.hid hts
  obtain ⟨A, c, hv, k1, k2, hA⟩ := hr
  rw [textsV_length] at hv
  subst hv
  have HR := Lib.hid (show Row w (.slice A ts.length c) (textsV ts) from ⟨A, c, by rw [textsV_length], k1, k2, hA⟩)
  clear hts hA k1 k2
  go_enter Try.func121, Try.ntmps121
  go_wp2_with fail
  refine (containsFunc ts _ _ _ (hasN · s) _ hl (HR.out.keep ((Below.refl _ _).alloc (Nat.le_refl _) _)) Try.call123 ?_).mono ?_
  · intro t ht w2 hb2
    exact tot11 w.heap.size s t w2 hs (HTS.out t ht).1 (HTS.out t ht).2 (by rw [hb2.cell (by simp), cell_of_row _ _ _ _ _ _ (heap_alloc_new _ _)]; rfl)
  rintro e w1 ⟨rfl, hb1⟩
  have hB : Below w.heap.size w w1 := ((Below.refl _ _).alloc (Nat.le_refl _) _).trans (hb1.mono (by simp))
  clear hb1
  cases ha : ts.any (hasN · s)
  · have HV := Lib.hid (show anyV ts s = 0 by unfold anyV; rw [ha]; rfl)
    clear ha
    go_wp2_with fail
    go_ret
    exact ⟨ret_int (by rw [HV.out]; rfl), hB⟩
  · have HV := Lib.hid (show anyV ts s = 1 by unfold anyV; rw [ha]; rfl)
    clear ha
    go_wp2_with fail
    go_ret
    exact ⟨ret_int (by rw [HV.out]; rfl), hB⟩

end Go.Proofs.Ytjpkpdihldcdaaa
