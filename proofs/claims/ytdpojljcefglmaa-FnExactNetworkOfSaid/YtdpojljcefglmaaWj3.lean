/- Walks: the network of formulas, the reference. -/
import Derived.Test.YtdpojljcefglmaaWj2
namespace Go.Proofs.Ytdpojljcefglmaa
set_option linter.unusedVariables false
set_option linter.unusedSimpArgs false
open Go.RowKit

set_option maxHeartbeats 1000000 in
theorem networkOfS (ts : List (List UInt8)) (v : Value) (w : World) (hl : ts.length ≤ 1048576) (hsz : ∀ t ∈ ts, t.length ≤ maxLen) (hr : Row w v (textsV ts)) :
    Calls Try.prog 20 #[v] w fun e w' => e = .returned (.tuple #[.string (strI (netOk ts) (joinL (netT ts))), .bool (netOk ts)]) ∧ Below w.heap.size w w' := by
  obtain ⟨A, c, rfl, k1, k2, hc⟩ := hr
  rw [textsV_length] at k1 ⊢
  have HC := Lib.hid hc
  have HSZ := Lib.hid hsz
  have HJ := Lib.hid (fun h5 => netT_32 ts h5)
  have HNE := Lib.hid (join_ne ts)
  have HNT := Lib.hid (show (netT ts).length = ts.length by unfold netT; rw [List.length_map])
  have HNS := Lib.hid (netT_snoc ts)
  have HOK := Lib.hid (show netOk ts = (decide (0 < ts.length) && ts.all (fun t => fmOk t (ts.length : Int))) from rfl)
  obtain ⟨m, hm⟩ : ∃ m, ts.length = m := ⟨_, rfl⟩
  rw [hm] at k1 hl HJ HNT HNS HOK HNE ⊢
  have HM := Lib.hid hm
  unfold maxLen at k2
  clear hc hsz hm
  generalize netT ts = X at *
  go_enter Try.func20, Try.ntmps20
  go_wp2_with (first | ((with_reducible refine wpList_empty 22 9 (.string ⟨#[]⟩) 16 Try.underlying22 infoS ?_); intro w1 hown1 hg1 hz1; (try simp only [Act.put, List.setIfInBounds_toArray, List.set_cons_succ, List.set_cons_zero, World.size_alloc, Nat.add_assoc, Nat.reduceAdd])) | fail)
  go_loopw [4, 5] (fun v j wr => ∃ k : Nat, k ≤ m ∧ j = .int .i64 k ∧ (0 < k → m ≤ 5) ∧ Hid ((ts.take k).all (fun t => fmOk t (m : Int)) = true) ∧ wr.ownsRow w.heap.size 9 1 v k (textsV (X.take k)) ∧ Below w.heap.size w wr) (fun _ j _ => m - (intOf j).toNat)
  case atStart => exact ⟨0, Nat.zero_le _, rfl, (fun h => absurd h (by omega)), rfl, hown1, (Below.refl _ _).grown hg1 (Nat.le_refl _) (fun k hk => by cases hk)⟩
  case round =>
    clear hown1 hg1 hz1
    obtain ⟨k, hk, rfl, hk5, hall, hown, hB⟩ := hrel
    by_cases hlt : k < m
    · obtain ⟨t, ht⟩ : ∃ t, ts[k]? = some t := ⟨_, List.getElem?_eq_getElem (by rw [HM.out]; exact hlt)⟩
      obtain ⟨b, off, rfl, hbl, hcells⟩ := HC.out (by intro e; have e2 := textsV_get _ _ _ ht; rw [e] at e2; cases e2)
      have hcell : wr.cell? ⟨b, off + k, none⟩ = some (.string ⟨t.toArray⟩) := (hB.cell (p := ⟨b, off + k, none⟩) hbl).trans (hcells k _ (textsV_get _ _ _ ht))
      obtain ⟨S, hS⟩ : ∃ S : ByteArray, S = ⟨t.toArray⟩ := ⟨_, rfl⟩
      rw [← hS] at hcell
      have HSL := Lib.hid (show S.data.toList = t by rw [hS])
      have HSS := Lib.hid (show S.size ≤ maxLen by rw [hS]; exact HSZ.out t (List.mem_of_getElem? ht))
      have HT := Lib.hid ht
      have HX := Lib.hid (HNS.out k t ht)
      clear hS ht hcells
      go_wp2_with fail
      refine (tableOfS S (m : Int) _ HSS.out).mono ?_
      rw [HSL.out, Int.toNat_natCast]
      rintro e w4 ⟨rfl, hb4⟩
      have hB4 := hB.trans (hb4.mono hB.size)
      have hown4 := own_below hown hb4
      have hsz4 := hB4.size
      clear hown hb4 hB
      cases hp : fmOk t (m : Int)
      · have HF := Lib.hid (show netOk ts = false by rw [HOK.out, all_noJ ts (fun t => fmOk t (m : Int)) k t HT.out hp]; simp)
        clear hp
        generalize strI false (tofL t m) = Y at *
        go_wp2_with fail
        go_ret2
        exact ⟨by rw [HF.out]; rfl, hB4⟩
      · have hm5 : m ≤ 5 := by have := (fmOk_range _ _ hp).2; omega
        have HA := Lib.hid (show (ts.take (k + 1)).all (fun t => fmOk t (m : Int)) = true by rw [all_takeJ ts _ k t HT.out, hall.out, hp]; rfl)
        rw [strI_true]
        clear hp hall hk5
        go_wp2_with (first | ((with_reducible refine wpList_push 22 9 _ _ (w.heap.size) (k) 16 (u4) (.string ⟨(tofL t m).toArray⟩) (.string ⟨#[]⟩) (_) Try.underlying22 infoS rfl rfl rfl ?_ ?_ ?_ (hown4) (hsz4) (by omega) (by decide) ?_); rfl; rfl; rfl; intro v2 w2 hown2 hg2 hat2 hbel2; (try simp only [Act.put, List.setIfInBounds_toArray, List.set_cons_succ, List.set_cons_zero, World.size_alloc, Nat.add_assoc, Nat.reduceAdd])) | fail)
        go_roundw
        case rel => exact ⟨k + 1, by omega, by go_num, (fun _ => hm5), HA, by rw [HX.out]; exact hown2, below_grown hB4 hbel2 (Nat.le_refl _)⟩
        case measure => simp [intOf]; omega
    · obtain rfl : k = m := by omega
      have hall2 : Hid (ts.all (fun t => fmOk t (k : Int)) = true) := by
        have := hall.out
        rw [List.take_of_length_le (by rw [HM.out]; exact Nat.le_refl _)] at this
        exact this
      rw [List.take_of_length_le (by rw [HNT.out]; exact Nat.le_refl _)] at hown
      have hrow := Row.of_own hown
      by_cases hk0 : k = 0
      · have HF := Lib.hid (show netOk ts = false by rw [HOK.out, hk0]; rfl)
        have hX : X = [] := List.length_eq_zero_iff.1 (by rw [HNT.out]; exact hk0)
        rw [hX] at hrow
        clear hk0 hall hall2 hown hX
        go_wp2_with fail
        refine (l3TextS [] _ _ (by simp) (fun x hx => by cases hx) hrow).mono ?_
        rintro e w' ⟨rfl, rfl⟩
        rw [show (⟨(joinL []).toArray⟩ : ByteArray) = ⟨#[]⟩ from rfl]
        go_wp2_with fail
        go_ret2
        exact ⟨by rw [HF.out]; rfl, hB⟩
      · have HF := Lib.hid (show netOk ts = true by rw [HOK.out, hall2.out]; simp; omega)
        have hm5 := hk5 (by omega)
        have hne0 := HNE.out (by omega)
        obtain ⟨W, hW⟩ : ∃ W : ByteArray, W = ⟨(joinL X).toArray⟩ := ⟨_, rfl⟩
        have hWl : W.data.toList ≠ [] := by rw [hW]; simpa using hne0
        have e1 : W.toList.isEmpty = false := by rw [ByteArray.toList_eq]; simpa using hWl
        have e2 : (W.toList == []) = false := by rw [ByteArray.toList_eq]; simpa using hWl
        have LT := Lib.hid (l3TextS X _ wr (by rw [HNT.out]; omega) (HJ.out hm5) hrow)
        rw [← hW] at LT
        have HW := Lib.hid hW
        clear hk0 hall hall2 hown hne0 hWl hW hrow
        go_wp2_with fail
        refine LT.out.mono ?_
        rintro e w' ⟨rfl, rfl⟩
        go_wp2_with fail
        go_ret2
        exact ⟨by rw [HF.out, strI_true, HW.out]; rfl, hB⟩

end Go.Proofs.Ytdpojljcefglmaa
