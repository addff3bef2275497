/- Walks: implicants, tables of terms. -/
import Derived.Test.YtnplaiolencgjaaWp
import Derived.Test.YtnplaiolencgjaaWs3
import Derived.Test.YtnplaiolencgjaaWs4
namespace Go.Proofs.Ytnplaiolencgjaa
set_option linter.unusedVariables false
set_option linter.unusedSimpArgs false
open Go.RowKit

theorem isImplicantI (f t : ByteArray) (w : World) (hs : f.size ≤ maxLen) (ht : t.size ≤ maxLen) :
    Calls Try.prog 9 #[.string f, .string t] w fun e w' => e = .returned (.bool (impV f.data.toList t.data.toList)) ∧ Below w.heap.size w w' := by
  cases hb : isTab f.data.toList
  · have HV := Lib.hid (rt_no _ hb)
    have H := Lib.hid (show impV f.data.toList t.data.toList = false by unfold impV; rw [hb]; rfl)
    clear hb
    go_enter Try.func9, Try.ntmps9
    go_wp2_with (first | (go_at_call 17; (with_reducible refine (readTable _ _ hs).mono ?_); rw [HV.out]; rintro e w1 ⟨rfl, hb1⟩) | ((with_reducible refine wpList_alloc_row 38 _ zeroT ?_); (try simp only [Act.put, List.setIfInBounds_toArray, List.set_cons_succ, List.set_cons_zero, World.size_alloc, Nat.add_assoc, Nat.reduceAdd])) | ((with_reducible refine wpList_storeT_new 38 _ _ (0) _ (fun _ => 0) _ _ _ ?_ ?_ infoT ?_); (first | rfl | simp [Act.eval, Act.put]); rfl; (try simp only [Act.put, List.setIfInBounds_toArray, List.set_cons_succ, List.set_cons_zero, World.size_alloc, Nat.add_assoc, Nat.reduceAdd])) | fail)
    go_ret
    exact ⟨ret_bool H.out.symm, hb1.alloc hb1.size _⟩
  obtain ⟨n, h1, h5, hn, hlg, hz, hv⟩ := rt_yes _ hb
  have HV := Lib.hid hv
  have h0 := tcells_zero n (tv f.data.toList)
  have HZ := Lib.hid (tv_le _ hz)
  have HN := Lib.hid (show 2 ^ n = f.size from hn)
  cases h2 : isTerm t.data.toList n
  · have H := Lib.hid (show impV f.data.toList t.data.toList = false by unfold impV; rw [hb, hlg, h2]; rfl)
    clear hb hn hlg hz hv
    go_enter Try.func9, Try.ntmps9
    go_wp2_with (first | (go_at_call 17; (with_reducible refine (readTable _ _ hs).mono ?_); rw [HV.out]; rintro e w1 ⟨rfl, hb1⟩) | ((with_reducible refine wpList_alloc_row 38 _ zeroT ?_); (try simp only [Act.put, List.setIfInBounds_toArray, List.set_cons_succ, List.set_cons_zero, World.size_alloc, Nat.add_assoc, Nat.reduceAdd])) | ((with_reducible refine wpList_storeT_new 38 _ _ (n) _ (tv f.data.toList) _ _ _ ?_ ?_ infoT ?_); (first | rfl | simp [Act.eval, Act.put]); rfl; (try simp only [Act.put, List.setIfInBounds_toArray, List.set_cons_succ, List.set_cons_zero, World.size_alloc, Nat.add_assoc, Nat.reduceAdd])) | fail)
    refine (termValidI _ _ _ ht).mono ?_
    rw [h2]
    rintro e w' ⟨rfl, rfl⟩
    go_wp2_with fail
    go_ret
    exact ⟨ret_bool H.out.symm, hb1.alloc hb1.size _⟩
  · have H := Lib.hid (show impV f.data.toList t.data.toList = impB (tv f.data.toList) f.size t.data.toList by unfold impV; rw [hb, hlg, h2, Bool.true_and, Bool.true_and]; rfl)
    obtain ⟨l1, l2, l3, l4⟩ := isTerm_len _ _ h2
    have ht5 : t.size ≤ 5 := by have : (t.size : Int) = n := l1; omega
    have HTb := Lib.hid l4
    clear hb hn hlg hz hv l1 l2 l3 l4
    go_enter Try.func9, Try.ntmps9
    go_wp2_with (first | (go_at_call 17; (with_reducible refine (readTable _ _ hs).mono ?_); rw [HV.out]; rintro e w1 ⟨rfl, hb1⟩) | ((with_reducible refine wpList_alloc_row 38 _ zeroT ?_); (try simp only [Act.put, List.setIfInBounds_toArray, List.set_cons_succ, List.set_cons_zero, World.size_alloc, Nat.add_assoc, Nat.reduceAdd])) | ((with_reducible refine wpList_storeT_new 38 _ _ (n) _ (tv f.data.toList) _ _ _ ?_ ?_ infoT ?_); (first | rfl | simp [Act.eval, Act.put]); rfl; (try simp only [Act.put, List.setIfInBounds_toArray, List.set_cons_succ, List.set_cons_zero, World.size_alloc, Nat.add_assoc, Nat.reduceAdd])) | fail)
    refine (termValidI _ _ _ ht).mono ?_
    rw [h2]
    rintro e w' ⟨rfl, rfl⟩
    go_wp2_with (first | ((with_reducible refine wpList_loadTg 38 _ (w1.heap.size) (n) (tv f.data.toList) 38 _ ?_ ?_ ?_ Try.underlying38 infoT ?_); rfl; rfl; exact (heap_alloc_new _ _); (try simp only [Act.put, List.setIfInBounds_toArray, List.set_cons_succ, List.set_cons_zero, World.size_alloc, Nat.add_assoc, Nat.reduceAdd])) | fail)
    refine (impliesI n f.size _ t _ h5 HN.out HZ.out ht5 HTb.out).mono ?_
    rintro e w2 ⟨rfl, hb2⟩
    have hB : Below w.heap.size w w2 := (hb1.alloc hb1.size _).trans (hb2.mono (by have := hb1.size; simp; omega))
    clear hb1 hb2
    go_wp2_with fail
    go_ret
    exact ⟨ret_bool H.out.symm, hB⟩

theorem tot11 (b s : Nat) (t : List UInt8) (w : World) (hs : s ≤ 65536) (ht : t.length ≤ 5) (htb : t.all tb = true) (hc : w.cell? ⟨b, 0, none⟩ = some (.int .i64 (s : Int))) :
    Calls Try.prog 28 #[.string ⟨t.toArray⟩, .pointer (some ⟨b, 0, none⟩)] w fun e w' => e = .returned (.bool (hasN t s)) ∧ Below w.heap.size w w' := by
  have HT := Lib.hid htb
  clear htb
  go_enter Try.func28, Try.ntmps28
  go_wp2_with fail
  refine (hasStateI ⟨t.toArray⟩ s _ ht hs HT.out).mono ?_
  rintro e w1 ⟨rfl, hw1⟩
  have hb1 := below_draws2 hw1
  clear hw1
  go_wp2_with fail
  go_ret
  exact ⟨rfl, hb1⟩

theorem tot1 (b s : Nat) (v : Value) (ts : List (List UInt8)) (w : World) (hs : s ≤ 65536) (hl : ts.length ≤ 1048576) (hts : ∀ t ∈ ts, t.length ≤ 5 ∧ t.all tb = true) (hbl : b < w.heap.size) (hc : w.cell? ⟨b, 0, none⟩ = some v) (hr : Row w v (textsV ts)) :
    Calls Try.prog 26 #[.int .i64 (s : Int), .pointer (some ⟨b, 0, none⟩)] w fun e w' => e = .returned (.int .u8 ((anyV ts s : Nat) : Int)) ∧ Below w.heap.size w w' := by
  have HTS := Lib.hid hts
  obtain ⟨A, c, hv, k1, k2, hA⟩ := hr
  rw [textsV_length] at hv
  subst hv
  have HR := Lib.hid (show Row w (.slice A ts.length c) (textsV ts) from ⟨A, c, by rw [textsV_length], k1, k2, hA⟩)
  clear hts hA k1 k2
  go_enter Try.func26, Try.ntmps26
  go_wp2_with fail
  refine (containsFunc ts _ _ _ (hasN · s) _ hl (HR.out.keep ((Below.refl _ _).alloc (Nat.le_refl _) _)) Try.call28 ?_).mono ?_
  · intro t ht w2 hb2
    exact tot11 w.heap.size s t w2 hs (HTS.out t ht).1 (HTS.out t ht).2 (by rw [hb2.cell (by simp), cell_of_row _ _ _ _ _ _ (heap_alloc_new _ _)]; rfl)
  rintro e w1 ⟨rfl, hb1⟩
  have hB : Below w.heap.size w w1 := ((Below.refl _ _).alloc (Nat.le_refl _) _).trans (hb1.mono (by simp))
  clear hb1
  cases ha : ts.any (hasN · s)
  · have HV := Lib.hid (show anyV ts s = 0 by unfold anyV; rw [ha]; rfl)
    clear ha
    go_wp2_with fail
    go_ret
    exact ⟨ret_int (by rw [HV.out]; rfl), hB⟩
  · have HV := Lib.hid (show anyV ts s = 1 by unfold anyV; rw [ha]; rfl)
    clear ha
    go_wp2_with fail
    go_ret
    exact ⟨ret_int (by rw [HV.out]; rfl), hB⟩

end Go.Proofs.Ytnplaiolencgjaa
