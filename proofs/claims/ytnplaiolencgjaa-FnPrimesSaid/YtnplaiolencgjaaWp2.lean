/- Walks: the greatest terms of the reference. -/
import Derived.Test.YtnplaiolencgjaaWp
namespace Go.Proofs.Ytnplaiolencgjaa
set_option linter.unusedVariables false
set_option linter.unusedSimpArgs false
open Go.RowKit

theorem set_str (t : ByteArray) (k : Nat) (h : k < t.size) : t.extract 0 k ++ ⟨#[42]⟩ ++ t.extract (k + 1) t.size = ⟨(t.data.toList.set k 42).toArray⟩ := by
  apply ByteArray.ext
  apply Array.ext'
  rw [ByteArray.data_append, ByteArray.data_append, Array.toList_append, Array.toList_append, ByteArray.data_extract, ByteArray.data_extract, Array.toList_extract, Array.toList_extract]
  have h' : k < t.data.toList.length := h
  rw [List.set_eq_take_append_cons_drop, if_pos h']
  simp [List.extract_eq_take_drop]
  exact List.take_of_length_le (by rw [List.length_drop]; exact Nat.le_refl _)

theorem l2PrimeS (f t : ByteArray) (w : World) (h32 : f.size ≤ 32) (ht : t.size ≤ 5) (hz : f.data.toList.all zb = true) (htb : t.data.toList.all tb = true) :
    Calls Try.prog 41 #[.string f, .string t] w fun e w' => e = .returned (.bool (l2P (tv f.data.toList) f.size t.data.toList)) ∧ Below w.heap.size w w' := by
  have HZ := Lib.hid hz
  have HT := Lib.hid htb
  clear hz htb
  cases h0 : impB (tv f.data.toList) f.size t.data.toList
  · have HP := Lib.hid (l2P_no _ _ _ h0)
    go_enter Try.func41, Try.ntmps41
    go_wp2_with fail
    refine (l2ImpliesS f t _ h32 ht HZ.out HT.out).mono ?_
    rw [h0]
    rintro e w1 ⟨rfl, hw1⟩
    have hb1 := below_draws2 hw1
    clear hw1
    go_wp2_with fail
    go_ret
    exact ⟨ret_bool HP.out.symm, hb1⟩
  · have H0 := Lib.hid h0
    clear h0
    go_enter Try.func41, Try.ntmps41
    go_wp2_with fail
    refine (l2ImpliesS f t _ h32 ht HZ.out HT.out).mono ?_
    rw [H0.out]
    rintro e w1 ⟨rfl, hw1⟩
    have hb1 := below_draws2 hw1
    clear hw1
    go_wp2_with fail
    go_loopw [5] (fun i wr => ∃ k : Nat, k ≤ t.size ∧ i = .int .i64 k ∧ Hid (∀ j, j < k → t.data.toList.getD j 0 = 42 ∨ impB (tv f.data.toList) f.size (t.data.toList.set j 42) = false) ∧ Below w.heap.size w wr) (fun i _ => t.size - (intOf i).toNat)
    case atStart => exact ⟨0, Nat.zero_le _, rfl, fun s hs => absurd hs (by omega), hb1⟩
    case round =>
      clear hb1
      obtain ⟨k, hk, rfl, hj, hB⟩ := hrel
      by_cases hlt : k < t.size
      · have b1 := getD_byte t k hlt
        by_cases h42 : t[k] = 42
        · have h1 : ((t[k].toNat : Int) != 42) = false := by rw [h42]; rfl
          have HJ : Hid (t.data.toList.getD k 0 = 42 ∨ impB (tv f.data.toList) f.size (t.data.toList.set k 42) = false) := .inl (b1.trans h42)
          clear b1 h42
          go_wp2_with fail
          go_quiet (fail)
          go_wp2_with fail
          go_roundw
          case rel =>
            refine ⟨k + 1, by omega, by go_num, fun j hjk => ?_, ⟨hB.os, hB.tape, hB.output, hB.size, hB.block⟩⟩
            rcases Nat.lt_or_ge j k with h | h
            · exact hj.out j h
            · obtain rfl : j = k := by omega
              exact HJ.out
          case measure => simp [intOf]; omega
        · have h1 : ((t[k].toNat : Int) != 42) = true := by rw [show (42 : Int) = ((42 : Nat) : Int) from rfl, u8_ne_lit _ _ (by omega)]; simpa using h42
          have SE := Lib.hid (set_str t k hlt)
          have w1 : IntKind.i64.wrap ((k : Int) + 1) = (k : Int) + 1 := IntWalk.i64_in _ (by omega)
          have w2 : (0 : Int) ≤ (k : Int) + 1 := by omega
          have w3 : ((k : Int) + 1).toNat = k + 1 := by omega
          have w4 : k + 1 ≤ t.size := by omega
          have w5 : (k : Int) + 1 ≤ (t.size : Int) := by omega
          have w6 : (k : Int) ≤ (t.size : Int) := by omega
          have HTS := Lib.hid (show (t.data.toList.set k 42).all tb = true by
            rw [List.all_eq_true]; intro c hc
            rcases List.mem_or_eq_of_mem_set hc with h' | h'
            · exact List.all_eq_true.1 HT.out c h'
            · subst h'; decide)
          have HTL := Lib.hid (show (⟨(t.data.toList.set k 42).toArray⟩ : ByteArray).size ≤ 5 by show (t.data.toList.set k 42).length ≤ 5; rw [List.length_set]; exact ht)
          go_wp2_with fail
          go_quiet ((go_at_call 53; rw [SE.out]; exact Calls.quiet_of (l2ImpliesS f _ _ h32 HTL.out HZ.out HTS.out)))
          have hB2 : Below w.heap.size w (wr.drewN nq) := ⟨hB.os, hB.tape, hB.output, hB.size, hB.block⟩
          clear w1 w2 w3 w4 w5 w6 hB
          generalize wr.drewN nq = wd at *
          cases hi : impB (tv f.data.toList) f.size (t.data.toList.set k 42)
          · have HI := Lib.hid hi
            go_wp2_with fail
            go_roundw
            case rel =>
              refine ⟨k + 1, by omega, by go_num, fun j hjk => ?_, hB2⟩
              rcases Nat.lt_or_ge j k with h | h
              · exact hj.out j h
              · obtain rfl : j = k := by omega
                exact .inr HI.out
            case measure => simp [intOf]; omega
          · have HP := Lib.hid (l2P_false (tv f.data.toList) f.size t.data.toList k hlt (by rw [b1]; exact h42) hi)
            go_wp2_with fail
            go_ret
            exact ⟨ret_bool HP.out.symm, hB2⟩
      · have HP := Lib.hid (l2P_true _ _ _ H0.out (fun i hi => hj.out i (by have : i < t.size := hi; omega)))
        go_wp2_with fail
        go_ret
        exact ⟨ret_bool HP.out.symm, hB⟩

theorem l2PrimesS (f : ByteArray) (n : Nat) (w : World) (hf : f.size ≤ maxLen) (h1 : 1 ≤ n) (h5 : n ≤ 5) (hn : 2 ^ n = f.size) (hz : f.data.toList.all zb = true) :
    Calls Try.prog 21 #[.string f] w fun e w' => (∃ v, e = .returned v ∧ Res w' w.heap.size 9 v (textsV (primS (tv f.data.toList) n f.size))) ∧ Below w.heap.size w w' := by
  have HZ := Lib.hid hz
  have HN := Lib.hid hn
  have HI := Lib.hid (show inpN f.size = (n : Int) from inpN_pow _ n h1 h5 hn.symm)
  have h32 : f.size ≤ 32 := by rw [← hn]; exact pow_le32 n h5
  clear hz hn
  go_enter Try.func21, Try.ntmps21
  go_wp2_with (first | ((with_reducible refine wpList_empty 24 9 (.string ⟨#[]⟩) 16 Try.underlying24 infoS ?_); intro w1 hown1 hg1 hz1; (try simp only [Act.put, List.setIfInBounds_toArray, List.set_cons_succ, List.set_cons_zero, World.size_alloc, Nat.add_assoc, Nat.reduceAdd])) | fail)
  refine (l1InputsS _ _ hf).mono ?_
  rw [HI.out]
  rintro e w' ⟨rfl, rfl⟩
  have hB1 : Below w.heap.size w w1 := (Below.refl _ _).grown hg1 (Nat.le_refl _) (fun k hk => by cases hk)
  go_wp2_with fail
  refine (l2AllS n _ h5).mono ?_
  rintro e w2 ⟨⟨all, rfl, hall⟩, hb2⟩
  have hownE := own_below hown1 hb2
  have hB2 : Below w.heap.size w w2 := hB1.trans (hb2.mono hB1.size)
  have hsz12 := hb2.size
  have hz1' : w1.heap.size = w.heap.size + 1 := hz1
  have hlen := allT_le n h5
  have HT := Lib.hid (allT_terms n)
  obtain ⟨A, c, hv, g1, g2, hc⟩ := Row.of_own hall
  rw [textsV_length] at hv
  have hp : 0 < (allT n).length := by rw [allT_length]; exact Nat.pow_pos (by omega)
  obtain ⟨b, off, rfl, hbl, hcell⟩ := hc (by intro h; have := textsV_length (allT n); rw [h] at this; simp at this; omega)
  have HC := Lib.hid (show ∀ j t, (allT n)[j]? = some t → w2.cell? ⟨b, off + j, none⟩ = some (.string ⟨t.toArray⟩) from fun j t h => hcell j _ (textsV_get _ _ _ h))
  have hbge : w.heap.size + 1 ≤ b := by
    have := hall.lt b (by rw [hv]; rfl)
    omega
  obtain ⟨m, hm⟩ : ∃ m, m = (allT n).length := ⟨_, rfl⟩
  rw [← hm] at hv hlen hp
  have HM := Lib.hid hm
  rw [hv]
  have HZ1 := Lib.hid hz1'
  clear hc hcell hm hall hown1 hg1 hz1 hB1 hb2 hv g1 g2 hz1'
  go_wp2_with fail
  go_loopw [3, 5] (fun v j wr => ∃ i : Nat, i ≤ m ∧ j = .int .i64 i ∧ wr.ownsRow w.heap.size 9 1 v (((allT n).take i).filter (l2P (tv f.data.toList) f.size)).length (textsV (((allT n).take i).filter (l2P (tv f.data.toList) f.size))) ∧ v.ownBlock ≠ some b ∧ Hid (wr.heap[b]? = w2.heap[b]?) ∧ Below w.heap.size w wr ∧ b < wr.heap.size) (fun _ j _ => m - (intOf j).toNat)
  case atStart => exact ⟨0, Nat.zero_le _, rfl, hownE, (by simp [Value.ownBlock]; omega), rfl, hB2, hbl⟩
  case round =>
    clear hownE hB2
    obtain ⟨i, hi, rfl, hown, hnb, hKb, hB, hbs⟩ := hrel
    by_cases hlt : i < m
    · obtain ⟨t, ht⟩ : ∃ t, (allT n)[i]? = some t := ⟨_, List.getElem?_eq_getElem (by rw [HM.out] at hlt; exact hlt)⟩
      have hcell : wr.cell? ⟨b, off + i, none⟩ = some (.string ⟨t.toArray⟩) := (World.cell?_of_block (a := ⟨b, off + i, none⟩) hKb.out).trans (HC.out i t ht)
      obtain ⟨S, hS⟩ : ∃ S : ByteArray, S = ⟨t.toArray⟩ := ⟨_, rfl⟩
      rw [← hS] at hcell
      have htl : S.size ≤ 5 := by rw [hS]; show t.length ≤ 5; rw [(HT.out t (List.mem_of_getElem? ht)).1]; omega
      have HTb := Lib.hid (show S.data.toList.all tb = true by rw [hS]; exact (HT.out t (List.mem_of_getElem? ht)).2)
      have HSL := Lib.hid (show S.data.toList = t by rw [hS])
      have HSS := Lib.hid hS
      have HF := Lib.hid (filter_take_succ (allT n) (l2P (tv f.data.toList) f.size) i t ht)
      have hfl := filter_take_len (allT n) (l2P (tv f.data.toList) f.size) i
      rw [← HM.out] at hfl
      clear hS ht
      go_wp2_with fail
      refine (l2PrimeS f S _ h32 htl HZ.out HTb.out).mono ?_
      rw [HSL.out]
      rintro e w3 ⟨rfl, hb3⟩
      have hcell3 : w3.cell? ⟨b, off + i, none⟩ = some (.string S) := (hb3.cell (p := ⟨b, off + i, none⟩) hbs).trans hcell
      have hown3 := own_below hown hb3
      have hKb3 : Hid (w3.heap[b]? = w2.heap[b]?) := (hb3.block b hbs).trans hKb.out
      have hB3 : Below w.heap.size w w3 := hB.trans (hb3.mono hB.size)
      have hbs3 : b < w3.heap.size := Nat.lt_of_lt_of_le hbs hb3.size
      clear hcell hown hKb hB hb3 hbs
      cases hp2 : l2P (tv f.data.toList) f.size t
      · have HP2 := Lib.hid hp2
        clear hp2
        go_wp2_with fail
        go_roundw
        case rel => exact ⟨i + 1, by omega, by go_num, by rw [HF.out, HP2.out]; simpa using hown3, hnb, hKb3, hB3, hbs3⟩
        case measure => simp [intOf]; omega
      · have HP2 := Lib.hid hp2
        clear hp2
        go_wp2_with (first | ((with_reducible refine wpList_push 24 9 _ _ (w.heap.size) ((((allT n).take i).filter (l2P (tv f.data.toList) f.size)).length) 16 (u3) (.string S) (.string ⟨#[]⟩) (_) Try.underlying24 infoS rfl rfl rfl ?_ ?_ ?_ (hown3) (hB3.size) (by omega) (by decide) ?_); rfl; rfl; rfl; intro v2 w2 hown2 hg2 hat2 hbel2; (try simp only [Act.put, List.setIfInBounds_toArray, List.set_cons_succ, List.set_cons_zero, World.size_alloc, Nat.add_assoc, Nat.reduceAdd])) | fail)
        go_roundw
        case rel =>
          refine ⟨i + 1, by omega, by go_num, ?_, ?_, ?_, below_grown hB3 hbel2 (Nat.le_refl _), Nat.lt_of_lt_of_le hbs3 hg2.size⟩
          · rw [HF.out, HP2.out, if_pos rfl, List.length_append]
            have : textsV (((allT n).take i).filter (l2P (tv f.data.toList) f.size) ++ [t]) = textsV (((allT n).take i).filter (l2P (tv f.data.toList) f.size)) ++ [.string S] := by rw [HSS.out]; simp [textsV]
            rw [this]
            exact hown2
          · rcases hat2 with h | h
            · rw [h]; exact hnb
            · rw [h]; simp; omega
          · exact (hg2.block b hbs3 (fun e => hnb e.symm)).trans hKb3.out
        case measure => simp [intOf]; omega
    · obtain rfl : i = m := by omega
      have HE := Lib.hid (show (allT n).take i = allT n by rw [HM.out, List.take_length])
      go_wp2_with fail
      go_ret
      refine ⟨⟨_, rfl, ?_⟩, hB⟩
      rw [HE.out] at hown
      exact Res.of_own hown

theorem primesOfS (f : ByteArray) (w : World) (hf : f.size ≤ maxLen) :
    Calls Try.prog 7 #[.string f] w fun e w' => (∃ v, e = .returned v ∧ Res w' w.heap.size 9 v (textsV (primL f.data.toList))) ∧ Below w.heap.size w w' := by
  cases h1 : isTab f.data.toList
  · have H := Lib.hid (show primL f.data.toList = [] by unfold primL; rw [h1]; rfl)
    go_enter Try.func7, Try.ntmps7
    go_wp2_with fail
    refine (tableValidS _ _ hf).mono ?_
    rw [h1]
    rintro e w' ⟨rfl, rfl⟩
    go_wp2_with (first | ((with_reducible refine wpList_empty 24 9 (.string ⟨#[]⟩) 16 Try.underlying24 infoS ?_); intro w1 hown1 hg1 hz1; (try simp only [Act.put, List.setIfInBounds_toArray, List.set_cons_succ, List.set_cons_zero, World.size_alloc, Nat.add_assoc, Nat.reduceAdd])) | fail)
    go_ret
    exact ⟨⟨_, rfl, by rw [H.out]; exact Res.of_own hown1⟩, (Below.refl _ _).grown hg1 (Nat.le_refl _) (fun k hk => by cases hk)⟩
  · obtain ⟨n, g1, g5, hn, hlg, hz, hv⟩ := rt_yes _ h1
    have H := Lib.hid (show primL f.data.toList = primS (tv f.data.toList) n f.size by unfold primL; rw [h1, hlg]; rfl)
    have HZ := Lib.hid hz
    have HN := Lib.hid (show 2 ^ n = f.size from hn)
    clear hn hlg hz hv
    go_enter Try.func7, Try.ntmps7
    go_wp2_with fail
    refine (tableValidS _ _ hf).mono ?_
    rw [h1]
    rintro e w' ⟨rfl, rfl⟩
    go_wp2_with fail
    refine (l2PrimesS f n _ hf g1 g5 HN.out HZ.out).mono ?_
    rintro e w1 ⟨⟨v, rfl, hr⟩, hb1⟩
    go_wp2_with fail
    go_ret
    exact ⟨⟨_, rfl, by rw [H.out]; exact hr⟩, hb1⟩

end Go.Proofs.Ytnplaiolencgjaa
