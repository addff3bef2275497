/- Walks: the greatest terms of the program. -/
import Derived.Test.YtnplaiolencgjaaWp
namespace Go.Proofs.Ytnplaiolencgjaa
set_option linter.unusedVariables false
set_option linter.unusedSimpArgs false
open Go.RowKit

theorem primes1 (b : Nat) (t u : List UInt8) (w : World) (ht : t.length ≤ 5) (hl : u.length = t.length) (hc : w.cell? ⟨b, 0, none⟩ = some (.string ⟨t.toArray⟩)) :
    Calls Try.prog 38 #[.string ⟨u.toArray⟩, .pointer (some ⟨b, 0, none⟩)] w fun e w' => e = .returned (.bool ((u != t) && insideB t u)) ∧ Below w.heap.size w w' := by
  obtain ⟨T, hT⟩ : ∃ T : ByteArray, T = ⟨t.toArray⟩ := ⟨_, rfl⟩
  obtain ⟨U, hU⟩ : ∃ U : ByteArray, U = ⟨u.toArray⟩ := ⟨_, rfl⟩
  have e1 : T.data.toList = t := by rw [hT]
  have e2 : U.data.toList = u := by rw [hU]
  rw [← hT] at hc
  rw [← hU]
  have ht5 : T.size ≤ 5 := by show T.data.toList.length ≤ 5; rw [e1]; exact ht
  have HL := Lib.hid (show U.size = T.size by show U.data.toList.length = T.data.toList.length; rw [e1, e2]; exact hl)
  by_cases hq : u = t
  · have hUT : U = T := by rw [hU, hT, hq]
    subst hUT
    have H := Lib.hid (show ((u != t) && insideB t u) = false by rw [hq]; simp)
    clear hT hU e1 e2 hq
    go_enter Try.func38, Try.ntmps38
    go_wp2_with fail
    go_ret
    exact ⟨ret_bool H.out.symm, Below.refl _ _⟩
  · have hne : U.data.toList ≠ T.data.toList := by rw [e1, e2]; exact hq
    have h1 : (U.data.toList == T.data.toList) = false := by simpa using hne
    have h2 : (U.toList == T.toList) = false := by rw [ByteArray.toList_eq, ByteArray.toList_eq]; exact h1
    have H := Lib.hid (show ((u != t) && insideB t u) = insideB T.data.toList U.data.toList by rw [e1, e2]; simp [hq])
    clear hT hU e1 e2 hq hne
    go_enter Try.func38, Try.ntmps38
    go_wp2_with fail
    refine (insideI T U _ ht5 HL.out).mono ?_
    rintro e w1 ⟨rfl, hb1⟩
    go_wp2_with fail
    go_ret
    exact ⟨ret_bool H.out.symm, hb1⟩

theorem clipS (v : Value) (base : Nat) (xs : List Value) (w : World) (h : Res w base 9 v xs) :
    Calls Try.prog 18 #[v] w fun e w' => (∃ u, e = .returned u ∧ Res w' base 9 u xs) ∧ w = w' := by
  obtain ⟨A, c, rfl, h1, h2, hc⟩ := h
  have HC := Lib.hid hc
  generalize hn : xs.length = n at *
  have HN := Lib.hid hn
  clear hc hn
  unfold maxLen at h2
  go_enter Try.func18, Try.ntmps18
  go_wp2_with fail
  go_ret
  have e := HN.out
  subst e
  exact ⟨⟨_, rfl, A, xs.length, rfl, Nat.le_refl _, by unfold maxLen; omega, HC.out⟩, rfl⟩

theorem primesI (n m : Nat) (g : Nat → Nat) (w : World) (h5 : n ≤ 5) (hm : 2 ^ n = m) (hg : ∀ s, g s ≤ 1) :
    Calls Try.prog 19 #[.agg (tcells n g)] w fun e w' => (∃ v, e = .returned v ∧ Res w' w.heap.size 9 v (textsV (primI g n m))) ∧ Below w.heap.size w w' := by
  have HG := Lib.hid hg
  have HM2 := Lib.hid hm
  have h0 := tcells_zero n g
  clear hg hm
  go_enter Try.func19, Try.ntmps19
  go_wp2_with fail
  refine (allTermsI n _ h5).mono ?_
  rintro e w1 ⟨⟨all, rfl, hall⟩, hb1⟩
  have hTx : Hid (w1.heap[w.heap.size]? = some (.cells (tcells n g) 38 (0, 0))) := (hb1.block _ (by simp)).trans (heap_alloc_new _ _)
  have hB1 : Below w.heap.size w w1 := ((Below.refl _ _).alloc (Nat.le_refl _) _).trans (hb1.mono (by simp))
  have hsz1 : w.heap.size < w1.heap.size := by have := hb1.size; simp at this; omega
  have hlen := allT_le n h5
  have HT := Lib.hid (allT_terms n)
  obtain ⟨A, c, hv, g1, g2, hc⟩ := Row.of_own hall
  rw [textsV_length] at hv
  have hp : 0 < (allT n).length := by rw [allT_length]; exact Nat.pow_pos (by omega)
  obtain ⟨b, off, rfl, hbl, hcell⟩ := hc (by intro h; have := textsV_length (allT n); rw [h] at this; simp at this; omega)
  have HC := Lib.hid (show ∀ j t, (allT n)[j]? = some t → w1.cell? ⟨b, off + j, none⟩ = some (.string ⟨t.toArray⟩) from fun j t h => hcell j _ (textsV_get _ _ _ h))
  obtain ⟨q, hq⟩ : ∃ q, q = (allT n).length := ⟨_, rfl⟩
  rw [← hq] at hv hlen hp
  have HQ := Lib.hid hq
  rw [hv]
  clear hc hcell hq hall hb1 hv g1 g2 h0
  go_wp2_with fail
  go_loopw [3, 13] (fun v j wr => ∃ i : Nat, i ≤ q ∧ j = .int .i64 i ∧ wr.ownsRow w1.heap.size 9 1 v (((allT n).take i).filter (impB g m)).length (textsV (((allT n).take i).filter (impB g m))) ∧ Below w1.heap.size w1 wr) (fun _ j _ => q - (intOf j).toNat)
  case atStart => exact ⟨0, Nat.zero_le _, rfl, World.ownsRow_nil _ _ _ _, Below.refl _ _⟩
  case round =>
    obtain ⟨i, hi, rfl, hown, hB⟩ := hrel
    have hTr : Hid (wr.heap[w.heap.size]? = some (.cells (tcells n g) 38 (0, 0))) := (hB.block _ hsz1).trans hTx.out
    by_cases hlt : i < q
    · obtain ⟨t, ht⟩ : ∃ t, (allT n)[i]? = some t := ⟨_, List.getElem?_eq_getElem (by rw [HQ.out] at hlt; exact hlt)⟩
      have hcell : wr.cell? ⟨b, off + i, none⟩ = some (.string ⟨t.toArray⟩) := (hB.cell (p := ⟨b, off + i, none⟩) hbl).trans (HC.out i t ht)
      obtain ⟨S, hS⟩ : ∃ S : ByteArray, S = ⟨t.toArray⟩ := ⟨_, rfl⟩
      rw [← hS] at hcell
      have htl : S.size ≤ 5 := by rw [hS]; show t.length ≤ 5; rw [(HT.out t (List.mem_of_getElem? ht)).1]; omega
      have HTb := Lib.hid (show S.data.toList.all tb = true by rw [hS]; exact (HT.out t (List.mem_of_getElem? ht)).2)
      have HSL := Lib.hid (show S.data.toList = t by rw [hS])
      have HSS := Lib.hid hS
      have HF := Lib.hid (filter_take_succ (allT n) (impB g m) i t ht)
      have hfl := filter_take_len (allT n) (impB g m) i
      rw [← HQ.out] at hfl
      clear hS ht
      go_wp2_with (first | ((with_reducible refine wpList_loadT 38 _ (w.heap.size) (n) (g) 38 _ ?_ ?_ Try.underlying38 infoT ?_); rfl; exact (hTr.out); (try simp only [Act.put, List.setIfInBounds_toArray, List.set_cons_succ, List.set_cons_zero, World.size_alloc, Nat.add_assoc, Nat.reduceAdd])) | fail)
      refine (impliesI n m g S _ h5 HM2.out HG.out htl HTb.out).mono ?_
      rw [HSL.out]
      rintro e w3 ⟨rfl, hb3⟩
      have hown3 := own_below hown hb3
      have hB3 : Below w1.heap.size w1 w3 := hB.trans (hb3.mono hB.size)
      clear hcell hown hB hb3 hTr
      cases hp2 : impB g m t
      · have HP2 := Lib.hid hp2
        clear hp2
        go_wp2_with fail
        go_roundw
        case rel => exact ⟨i + 1, by omega, by go_num, by rw [HF.out, HP2.out]; simpa using hown3, hB3⟩
        case measure => simp [intOf]; omega
      · have HP2 := Lib.hid hp2
        clear hp2
        go_wp2_with (first | ((with_reducible refine wpList_push 24 9 _ _ (w1.heap.size) ((((allT n).take i).filter (impB g m)).length) 16 (u3) (.string S) (.string ⟨#[]⟩) (_) Try.underlying24 infoS rfl rfl rfl ?_ ?_ ?_ (hown3) (hB3.size) (by omega) (by decide) ?_); rfl; rfl; rfl; intro v2 w2 hown2 hg2 hat2 hbel2; (try simp only [Act.put, List.setIfInBounds_toArray, List.set_cons_succ, List.set_cons_zero, World.size_alloc, Nat.add_assoc, Nat.reduceAdd])) | fail)
        go_roundw
        case rel =>
          refine ⟨i + 1, by omega, by go_num, ?_, below_grown hB3 hbel2 (Nat.le_refl _)⟩
          rw [HF.out, HP2.out, if_pos rfl, List.length_append]
          have : textsV (((allT n).take i).filter (impB g m) ++ [t]) = textsV (((allT n).take i).filter (impB g m)) ++ [.string S] := by rw [HSS.out]; simp [textsV]
          rw [this]
          exact hown2
        case measure => simp [intOf]; omega
    · obtain rfl : i = q := by omega
      have HE : (allT n).take i = allT n := by rw [HQ.out, List.take_length]
      rw [HE] at hown
      have hrow : Row wr u3 (textsV (impAll g n m)) := Row.of_own hown
      have hlA : (impAll g n m).length ≤ 243 := Nat.le_trans (List.length_filter_le _ _) (by rw [← HQ.out]; exact hlen)
      have HTA := Lib.hid (show ∀ t ∈ impAll g n m, t.length = n ∧ t.all tb = true from fun t ht => HT.out t (List.mem_filter.1 ht).1)
      have hB2 : Below w.heap.size w wr := hB1.trans (hB.mono hB1.size)
      have HPI := Lib.hid (show primI g n m = (impAll g n m).filter (primB (impAll g n m)) from rfl)
      clear hown HE hTr hB hB1 hTx HC HQ hlen hp hlt hi
      generalize impAll g n m = all at *
      obtain ⟨A2, c2, hv2, k1, k2, hc2⟩ := hrow
      rw [textsV_length] at hv2
      rw [hv2]
      have HROW := Lib.hid (show Row wr (.slice A2 all.length c2) (textsV all) from ⟨A2, c2, by rw [textsV_length], k1, k2, hc2⟩)
      have HC2 := Lib.hid hc2
      obtain ⟨r, hr⟩ : ∃ r, r = all.length := ⟨_, rfl⟩
      rw [← hr] at hlA
      have HR := Lib.hid hr
      rw [← hr]
      clear hc2 hr hv2 k1 k2
      obtain ⟨wo, rfl⟩ : ∃ wo : World, wo = wr := ⟨_, rfl⟩
      by_cases hz : all = []
      · have HZ0 := Lib.hid (show primI g n m = [] by rw [HPI.out, hz]; rfl)
        have hr0 : r = 0 := by rw [HR.out, hz]; rfl
        subst hr0
        clear HR hlA hz
        go_wp2_with fail
        refine wp_loop_rounds 1 ?_
        rw [rounds_succ]
        go_wp2_with fail
        go_ret
        exact ⟨⟨_, rfl, by rw [HZ0.out]; exact Res.none_ _ _ _⟩, hB2⟩
      obtain ⟨b2, off2, rfl, hbl2, hcell2⟩ := HC2.out (by simpa [textsV] using hz)
      have HCC := Lib.hid (show ∀ j t, all[j]? = some t → wo.cell? ⟨b2, off2 + j, none⟩ = some (.string ⟨t.toArray⟩) from fun j t h => hcell2 j _ (textsV_get _ _ _ h))
      have HROW2 := Lib.hid (show Row wo (.slice (some ⟨b2, off2, none⟩) r c2) (textsV all) by rw [HR.out]; exact HROW.out)
      clear hcell2 HC2 HROW hz
      go_wp2_with fail
      go_loopw [4, 27] (fun v j wr => ∃ i : Nat, i ≤ r ∧ j = .int .i64 i ∧ wr.ownsRow wo.heap.size 9 1 v ((all.take i).filter (primB all)).length (textsV ((all.take i).filter (primB all))) ∧ Below wo.heap.size wo wr) (fun _ j _ => r - (intOf j).toNat)
      case atStart => exact ⟨0, Nat.zero_le _, rfl, World.ownsRow_nil _ _ _ _, Below.refl _ _⟩
      case round =>
        obtain ⟨i, hi, rfl, hown, hB⟩ := hrel
        by_cases hlt : i < r
        · obtain ⟨t, ht⟩ : ∃ t, all[i]? = some t := ⟨_, List.getElem?_eq_getElem (by rw [HR.out] at hlt; exact hlt)⟩
          have hcell : wr.cell? ⟨b2, off2 + i, none⟩ = some (.string ⟨t.toArray⟩) := (hB.cell (p := ⟨b2, off2 + i, none⟩) hbl2).trans (HCC.out i t ht)
          obtain ⟨S, hS⟩ : ∃ S : ByteArray, S = ⟨t.toArray⟩ := ⟨_, rfl⟩
          rw [← hS] at hcell
          have htn := (HTA.out t (List.mem_of_getElem? ht)).1
          have HSS := Lib.hid hS
          have HTN := Lib.hid htn
          have HF := Lib.hid (filter_take_succ all (primB all) i t ht)
          have hfl := filter_take_len all (primB all) i
          rw [← HR.out] at hfl
          have HPB := Lib.hid (show primB all t = !all.any (fun u => (u != t) && insideB t u) from rfl)
          clear hS ht htn
          go_wp2_with fail
          refine (containsFunc all _ _ _ (fun u => (u != t) && insideB t u) _ (by rw [← HR.out]; omega) (HROW2.out.keep (hB.alloc hB.size _)) Try.call38 ?_).mono ?_
          · intro u hu w3 hb3
            refine primes1 wr.heap.size t u w3 (by rw [HTN.out]; exact h5) (by rw [HTN.out]; exact (HTA.out u hu).1) ?_
            rw [hb3.cell (by simp), cell_of_row _ _ _ _ _ _ (heap_alloc_new _ _), ← HSS.out]; rfl
          rintro e w3 ⟨rfl, hb3⟩
          have hc3 : w3.cell? ⟨wr.heap.size, 0, none⟩ = some (.string S) := by rw [hb3.cell (by simp), cell_of_row _ _ _ _ _ _ (heap_alloc_new _ _)]; rfl
          have hown3 := own_below (hown.alloc _) hb3
          have hB3 : Below wo.heap.size wo w3 := (hB.alloc hB.size _).trans (hb3.mono (by have := hB.size; simp; omega))
          clear hcell hown hB hb3
          cases hp2 : primB all t
          · have ha : (all.any fun u => (u != t) && insideB t u) = true := by have := HPB.out; rw [hp2] at this; simpa using this.symm
            have HP2 := Lib.hid hp2
            clear hp2
            generalize (all.any fun u => (u != t) && insideB t u) = an at *
            subst ha
            go_wp2_with fail
            go_roundw
            case rel => exact ⟨i + 1, by omega, by go_num, by rw [HF.out, HP2.out]; simpa using hown3, hB3⟩
            case measure => simp [intOf]; omega
          · have ha : (all.any fun u => (u != t) && insideB t u) = false := by have := HPB.out; rw [hp2] at this; simpa using this.symm
            have HP2 := Lib.hid hp2
            clear hp2
            generalize (all.any fun u => (u != t) && insideB t u) = an at *
            subst ha
            go_wp2_with (first | ((with_reducible refine wpList_push 24 9 _ _ (wo.heap.size) (((all.take i).filter (primB all)).length) 16 (u4) (.string S) (.string ⟨#[]⟩) (_) Try.underlying24 infoS rfl rfl rfl ?_ ?_ ?_ (hown3) (hB3.size) (by omega) (by decide) ?_); rfl; rfl; rfl; intro v2 w2 hown2 hg2 hat2 hbel2; (try simp only [Act.put, List.setIfInBounds_toArray, List.set_cons_succ, List.set_cons_zero, World.size_alloc, Nat.add_assoc, Nat.reduceAdd])) | fail)
            go_roundw
            case rel =>
              refine ⟨i + 1, by omega, by go_num, ?_, below_grown hB3 hbel2 (Nat.le_refl _)⟩
              rw [HF.out, HP2.out, if_pos rfl, List.length_append]
              have : textsV ((all.take i).filter (primB all) ++ [t]) = textsV ((all.take i).filter (primB all)) ++ [.string S] := by rw [HSS.out]; simp [textsV]
              rw [this]
              exact hown2
            case measure => simp [intOf]; omega
        · obtain rfl : i = r := by omega
          have HE := Lib.hid (show all.take i = all by rw [HR.out, List.take_length])
          go_wp2_with fail
          go_ret
          refine ⟨⟨_, rfl, ?_⟩, hB2.trans (hB.mono hB2.size)⟩
          rw [HE.out] at hown
          rw [HPI.out]
          exact (Res.of_own hown).mono hB2.size

theorem primesOfI (f : ByteArray) (w : World) (hs : f.size ≤ maxLen) :
    Calls Try.prog 5 #[.string f] w fun e w' => (∃ v, e = .returned v ∧ Res w' w.heap.size 9 v (textsV (primL f.data.toList))) ∧ Below w.heap.size w w' := by
  cases hb : isTab f.data.toList
  · have HV := Lib.hid (rt_no _ hb)
    have H := Lib.hid (show primL f.data.toList = [] by unfold primL; rw [hb]; rfl)
    clear hb
    go_enter Try.func5, Try.ntmps5
    go_wp2_with (first | (go_at_call 17; (with_reducible refine (readTable _ _ hs).mono ?_); rw [HV.out]; rintro e w1 ⟨rfl, hb1⟩) | ((with_reducible refine wpList_alloc_row 38 _ zeroT ?_); (try simp only [Act.put, List.setIfInBounds_toArray, List.set_cons_succ, List.set_cons_zero, World.size_alloc, Nat.add_assoc, Nat.reduceAdd])) | ((with_reducible refine wpList_storeT_new 38 _ _ (0) _ (fun _ => 0) _ _ _ ?_ ?_ infoT ?_); (first | rfl | simp [Act.eval, Act.put]); rfl; (try simp only [Act.put, List.setIfInBounds_toArray, List.set_cons_succ, List.set_cons_zero, World.size_alloc, Nat.add_assoc, Nat.reduceAdd])) | fail)
    go_ret
    exact ⟨⟨_, rfl, by rw [H.out]; exact Res.none_ _ _ _⟩, hb1.alloc hb1.size _⟩
  · obtain ⟨n, h1, h5, hn, hlg, hz, hv⟩ := rt_yes _ hb
    have H := Lib.hid (show primL f.data.toList = primI (tv f.data.toList) n f.size by unfold primL; rw [hb, hlg, prim_eq]; rfl)
    have HV := Lib.hid hv
    have HZ := Lib.hid (tv_le _ hz)
    have HN := Lib.hid (show 2 ^ n = f.size from hn)
    clear hb hn hlg hz hv
    go_enter Try.func5, Try.ntmps5
    go_wp2_with (first | (go_at_call 17; (with_reducible refine (readTable _ _ hs).mono ?_); rw [HV.out]; rintro e w1 ⟨rfl, hb1⟩) | ((with_reducible refine wpList_alloc_row 38 _ zeroT ?_); (try simp only [Act.put, List.setIfInBounds_toArray, List.set_cons_succ, List.set_cons_zero, World.size_alloc, Nat.add_assoc, Nat.reduceAdd])) | ((with_reducible refine wpList_storeT_new 38 _ _ (n) _ (tv f.data.toList) _ _ _ ?_ ?_ infoT ?_); (first | rfl | simp [Act.eval, Act.put]); rfl; (try simp only [Act.put, List.setIfInBounds_toArray, List.set_cons_succ, List.set_cons_zero, World.size_alloc, Nat.add_assoc, Nat.reduceAdd])) | ((with_reducible refine wpList_loadT 38 _ (w1.heap.size) (n) (tv f.data.toList) 38 _ ?_ ?_ Try.underlying38 infoT ?_); rfl; exact (heap_alloc_new _ _); (try simp only [Act.put, List.setIfInBounds_toArray, List.set_cons_succ, List.set_cons_zero, World.size_alloc, Nat.add_assoc, Nat.reduceAdd])) | fail)
    refine (primesI n f.size _ _ h5 HN.out HZ.out).mono ?_
    rintro e w2 ⟨⟨v, rfl, hr⟩, hb2⟩
    have hB : Below w.heap.size w w2 := (hb1.alloc hb1.size _).trans (hb2.mono (by have := hb1.size; simp; omega))
    have hr2 : Res w2 w.heap.size 9 v _ := hr.mono (by have := hb1.size; simp; omega)
    clear hb1 hb2 hr
    go_wp2_with fail
    refine (clipS v _ _ _ hr2).mono ?_
    rintro e w' ⟨⟨u, rfl, hu⟩, rfl⟩
    go_wp2_with fail
    go_ret
    exact ⟨⟨_, rfl, by rw [H.out]; exact hu⟩, hB⟩

end Go.Proofs.Ytnplaiolencgjaa
