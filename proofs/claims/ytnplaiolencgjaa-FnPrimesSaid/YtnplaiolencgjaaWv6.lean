/- Walks: the needed terms. -/
import Derived.Test.YtnplaiolencgjaaWv3
import Derived.Test.YtnplaiolencgjaaWv4
import Derived.Test.YtnplaiolencgjaaWp2
import Derived.Test.YtnplaiolencgjaaWp3
namespace Go.Proofs.Ytnplaiolencgjaa
set_option linter.unusedVariables false
set_option linter.unusedSimpArgs false
open Go.RowKit

theorem lgN_le6 (m : Nat) : lgN m ≤ 5 := by
  rcases Nat.eq_zero_or_pos (lgN m) with h | h
  · omega
  · exact (lgN_pos m h).2.1
theorem primL_size6 (l : List UInt8) (t : List UInt8) (h : t ∈ primL l) : l.length = 2 ^ t.length := by
  have h1 := (primL_mem l t h).1
  unfold primL at h
  split at h
  · next hb =>
    obtain ⟨n, _, _, hn, hlg, _, _⟩ := rt_yes _ hb
    rw [h1, hlg, hn]
  · cases h
theorem neeL_len (l : List UInt8) : (neeL l).length ≤ 65536 := Nat.le_trans (neeK_len _ _) (Nat.le_trans (primL_len l) (by decide))

theorem neededPrimesI (f : ByteArray) (w : World) (hs : f.size ≤ maxLen) :
    Calls Try.prog 13 #[.string f] w fun e w' => (∃ v, e = .returned v ∧ Res w' w.heap.size 9 v (textsV (neeL f.data.toList))) ∧ Below w.heap.size w w' := by
  have HL0 := Lib.hid (primL_len f.data.toList)
  have HT0 := Lib.hid (show ∀ t ∈ primL f.data.toList, t.length ≤ 5 ∧ t.all tb = true from fun t ht => ⟨by rw [(primL_mem _ t ht).1]; exact lgN_le6 _, (primL_mem _ t ht).2⟩)
  obtain ⟨Z, hZ⟩ : ∃ Z, Z = neeL f.data.toList := ⟨_, rfl⟩
  have HC0 := Lib.hid (show Z = neeK (primL f.data.toList) (primL f.data.toList).length from hZ)
  rw [← hZ]
  clear hZ
  go_enter Try.func13, Try.ntmps13
  go_wp2_with fail
  refine (primesOfI f _ hs).mono ?_
  rintro e w1 ⟨⟨v, rfl, hr⟩, hb1⟩
  generalize primL f.data.toList = l at *
  have HR := Lib.hid hr.row
  obtain ⟨A, c, rfl, h1, h2, hc⟩ := hr.row
  clear hr
  rw [textsV_length] at h1 HR ⊢
  have hl := HL0.out
  obtain ⟨n, hn⟩ : ∃ n, l.length = n := ⟨_, rfl⟩
  rw [hn] at hl h1 ⊢
  have HN := Lib.hid hn
  have HC := Lib.hid hc
  have HM := Lib.hid h2
  clear hc h2
  by_cases hz : l = []
  · have HZ0 := Lib.hid (show Z = [] by rw [HC0.out, hz]; rfl)
    have hr0 : n = 0 := by rw [← hn, hz]; rfl
    subst hr0
    clear HN hn hz
    go_wp2_with fail
    refine wp_loop_rounds 1 ?_
    rw [rounds_succ]
    go_wp2_with fail
    refine (clipS _ w.heap.size _ _ (Res.none_ _ _ _)).mono ?_
    rintro e w' ⟨⟨u, rfl, hu⟩, rfl⟩
    go_wp2_with fail
    go_ret
    exact ⟨⟨_, rfl, by rw [HZ0.out]; exact hu⟩, hb1⟩
  obtain ⟨b, off, rfl, hbl, hcells⟩ := HC.out (by simpa [textsV] using hz)
  have HCC := Lib.hid (show ∀ j t, l[j]? = some t → w1.cell? ⟨b, off + j, none⟩ = some (.string ⟨t.toArray⟩) from fun j t h => hcells j _ (textsV_get _ _ _ h))
  clear hcells HC hz hn
  go_wp2_with fail
  go_loopw [3, 11] (fun v j wr => ∃ i : Nat, i ≤ n ∧ j = .int .i64 i ∧ wr.ownsRow w1.heap.size 9 1 v (neeK l i).length (textsV (neeK l i)) ∧ Below w1.heap.size w1 wr) (fun _ j _ => n - (intOf j).toNat)
  case atStart => exact ⟨0, Nat.zero_le _, rfl, World.ownsRow_nil _ _ _ _, Below.refl _ _⟩
  case round =>
    obtain ⟨i, hi, rfl, hown, hB⟩ := hrel
    by_cases hlt : i < n
    · obtain ⟨t, ht⟩ : ∃ t, l[i]? = some t := ⟨_, List.getElem?_eq_getElem (by rw [HN.out]; exact hlt)⟩
      have hcell : wr.cell? ⟨b, off + i, none⟩ = some (.string ⟨t.toArray⟩) := (hB.cell (p := ⟨b, off + i, none⟩) hbl).trans (HCC.out i t ht)
      obtain ⟨S, hS⟩ : ∃ S : ByteArray, S = ⟨t.toArray⟩ := ⟨_, rfl⟩
      rw [← hS] at hcell
      have HSS := Lib.hid hS
      have HK := Lib.hid ht
      have hfl := neeK_len l i
      have HF := Lib.hid (neeK_succ l i t ht)
      clear hS ht
      go_wp2_with fail
      have key0 := withoutI l b off c i wr (by rw [HN.out]; exact hlt) (by rw [HN.out]; omega) (by rw [HN.out]; exact h1) HM.out (HR.out.keep hB)
      rw [HN.out] at key0
      refine key0.mono ?_
      rintro e w3 ⟨⟨u, rfl, hu⟩, hb3⟩
      have HU := Lib.hid hu
      have hB3 : Below w1.heap.size w1 w3 := hB.trans (hb3.mono hB.size)
      have hown3 := own_below hown hb3
      clear key0 hcell hu hb3 hB hown
      go_wp2_with fail
      have key : Calls Try.prog 31 #[.string S, u] w3 fun e w' => e = .returned (.bool (needB t (wout l i))) ∧ Below w3.heap.size w3 w' := by
        rw [HSS.out]
        have hm := HT0.out t (List.mem_of_getElem? HK.out)
        have hi' : i < l.length := by rw [HN.out]; exact hlt
        exact neededI t u (wout l i) w3 hm.1 hm.2 (by rw [wout_length l i hi', HN.out]; omega) (fun x hx => HT0.out x (wout_mem l i x hx)) (Row.of_own HU.out)
      refine key.mono ?_
      rintro e w4 ⟨rfl, hb4⟩
      have hB4 : Below w1.heap.size w1 w4 := hB3.trans (hb4.mono hB3.size)
      have hown4 := own_below hown3 hb4
      clear key hb4 hB3 HU hown3
      cases hnd : needB t (wout l i)
      · have HND := Lib.hid hnd
        clear hnd
        go_wp2_with fail
        go_roundw
        case rel => exact ⟨i + 1, by omega, by go_num, by rw [HF.out, HND.out]; simpa using hown4, hB4⟩
        case measure => simp [intOf]; omega
      · have HND := Lib.hid hnd
        clear hnd
        go_wp2_with (first | ((with_reducible refine wpList_push 24 9 _ _ (w1.heap.size) ((neeK l i).length) 16 (u3) (.string S) (.string ⟨#[]⟩) (_) Try.underlying24 infoS rfl rfl rfl ?_ ?_ ?_ (hown4) (hB4.size) (by omega) (by decide) ?_); rfl; rfl; rfl; intro v2 w2 hown2 hg2 hat2 hbel2; (try simp only [Act.put, List.setIfInBounds_toArray, List.set_cons_succ, List.set_cons_zero, World.size_alloc, Nat.add_assoc, Nat.reduceAdd])) | fail)
        go_roundw
        case rel =>
          refine ⟨i + 1, by omega, by go_num, ?_, below_grown hB4 hbel2 (Nat.le_refl _)⟩
          rw [HF.out, HND.out, if_pos rfl, List.length_append]
          have : textsV (neeK l i ++ [t]) = textsV (neeK l i) ++ [.string S] := by rw [HSS.out]; simp [textsV]
          rw [this]
          exact hown2
        case measure => simp [intOf]; omega
    · obtain rfl : i = n := by omega
      have HE := Lib.hid (show Z = neeK l i by rw [HC0.out, HN.out])
      have hsz1 := hb1.size
      go_wp2_with fail
      refine (clipS _ w.heap.size _ _ ((Res.of_own hown).mono hsz1)).mono ?_
      rintro e w' ⟨⟨u, rfl, hu⟩, rfl⟩
      go_wp2_with fail
      go_ret
      exact ⟨⟨_, rfl, by rw [HE.out]; exact hu⟩, hb1.trans (hB.mono hsz1)⟩

theorem neededPrimesS (f : ByteArray) (w : World) (hs : f.size ≤ maxLen) :
    Calls Try.prog 14 #[.string f] w fun e w' => (∃ v, e = .returned v ∧ Res w' w.heap.size 9 v (textsV (neeL f.data.toList))) ∧ Below w.heap.size w w' := by
  have HL0 := Lib.hid (primL_len f.data.toList)
  have HT0 := Lib.hid (show ∀ t ∈ primL f.data.toList, (t.length ≤ 5 ∧ t.all tb = true) ∧ f.size = 2 ^ t.length from fun t ht => ⟨⟨by rw [(primL_mem _ t ht).1]; exact lgN_le6 _, (primL_mem _ t ht).2⟩, primL_size6 _ t ht⟩)
  obtain ⟨Z, hZ⟩ : ∃ Z, Z = neeL f.data.toList := ⟨_, rfl⟩
  have HC0 := Lib.hid (show Z = neeK (primL f.data.toList) (primL f.data.toList).length from hZ)
  rw [← hZ]
  clear hZ
  go_enter Try.func14, Try.ntmps14
  go_wp2_with (first | ((with_reducible refine wpList_empty 24 9 (.string ⟨#[]⟩) 16 Try.underlying24 infoS ?_); intro w1 hown1 hg1 hz1; (try simp only [Act.put, List.setIfInBounds_toArray, List.set_cons_succ, List.set_cons_zero, World.size_alloc, Nat.add_assoc, Nat.reduceAdd])) | fail)
  refine (primesOfS f _ hs).mono ?_
  rintro e w2 ⟨⟨v, rfl, hr⟩, hb2⟩
  generalize primL f.data.toList = l at *
  have hownE := own_below hown1 hb2
  have hB1 : Below w.heap.size w w1 := (Below.refl _ _).grown hg1 (Nat.le_refl _) (fun k hk => by cases hk)
  have hB2 : Below w.heap.size w w2 := hB1.trans (hb2.mono hB1.size)
  have hsz12 := hb2.size
  have hz1' : w1.heap.size = w.heap.size + 1 := hz1
  obtain ⟨A, c, rfl, h1, h2, hc⟩ := hr
  rw [textsV_length] at h1 ⊢
  have hl := HL0.out
  obtain ⟨n, hn⟩ : ∃ n, l.length = n := ⟨_, rfl⟩
  rw [hn] at hl h1 ⊢
  have HN := Lib.hid hn
  have HC := Lib.hid hc
  have HZ1 := Lib.hid hz1'
  clear hc h2 hown1 hg1 hz1 hB1 hb2 hz1'
  by_cases hz : l = []
  · have HZ0 := Lib.hid (show Z = [] by rw [HC0.out, hz]; rfl)
    have hr0 : n = 0 := by rw [← hn, hz]; rfl
    subst hr0
    clear HN hn hz
    go_wp2_with fail
    refine wp_loop_rounds 1 ?_
    rw [rounds_succ]
    go_wp2_with fail
    go_ret
    exact ⟨⟨_, rfl, by rw [HZ0.out]; exact Res.of_own hownE⟩, hB2⟩
  obtain ⟨b, cur, rfl, hbge, hheap, hcells⟩ := HC.out (by simpa [textsV] using hz)
  have hbl : b < w2.heap.size := (Array.getElem?_eq_some_iff.1 hheap).1
  have HCC := Lib.hid (show ∀ j t, l[j]? = some t → w2.cell? ⟨b, 0 + j, none⟩ = some (.string ⟨t.toArray⟩) from fun j t h => by
    rw [Nat.zero_add, cell_of_row _ _ _ _ _ _ hheap]; exact hcells j _ (textsV_get _ _ _ h))
  rw [HZ1.out] at hbge hsz12
  clear hcells HC hz hn hheap
  go_wp2_with fail
  go_loopw [3, 5] (fun v j wr => ∃ i : Nat, i ≤ n ∧ j = .int .i64 i ∧ wr.ownsRow w.heap.size 9 1 v (neeK l i).length (textsV (neeK l i)) ∧ v.ownBlock ≠ some b ∧ Hid (wr.heap[b]? = w2.heap[b]?) ∧ Below w.heap.size w wr ∧ b < wr.heap.size) (fun _ j _ => n - (intOf j).toNat)
  case atStart => exact ⟨0, Nat.zero_le _, rfl, hownE, (by simp [Value.ownBlock]; omega), rfl, hB2, hbl⟩
  case round =>
    clear hownE hB2
    obtain ⟨i, hi, rfl, hown, hnb, hKb, hB, hbs⟩ := hrel
    by_cases hlt : i < n
    · obtain ⟨t, ht⟩ : ∃ t, l[i]? = some t := ⟨_, List.getElem?_eq_getElem (by rw [HN.out]; exact hlt)⟩
      obtain ⟨S, hS⟩ : ∃ S : ByteArray, S = ⟨t.toArray⟩ := ⟨_, rfl⟩
      have HSS := Lib.hid hS
      have HK := Lib.hid ht
      have hfl := neeK_len l i
      have HF := Lib.hid (neeK_succ l i t ht)
      clear hS ht
      go_wp2_with fail
      have hm := HT0.out t (List.mem_of_getElem? HK.out)
      refine (l2NeededS f t l b 0 c i n _ hm.2 HK.out HN.out (by omega) (fun u hu => (HT0.out u hu).1) hbs (fun j u hu => (World.cell?_of_block (a := ⟨b, 0 + j, none⟩) hKb.out).trans (HCC.out j u hu))).mono ?_
      rintro e w3 ⟨rfl, hb3⟩
      have hcell3 : w3.cell? ⟨b, i, none⟩ = some (.string S) := by
        refine (hb3.cell (p := ⟨b, i, none⟩) hbs).trans ((World.cell?_of_block (a := ⟨b, i, none⟩) hKb.out).trans ?_)
        have := HCC.out i t HK.out
        rw [Nat.zero_add] at this
        rw [HSS.out]; exact this
      have hown3 := own_below hown hb3
      have hKb3 : Hid (w3.heap[b]? = w2.heap[b]?) := (hb3.block b hbs).trans hKb.out
      have hB3 : Below w.heap.size w w3 := hB.trans (hb3.mono hB.size)
      have hbs3 : b < w3.heap.size := Nat.lt_of_lt_of_le hbs hb3.size
      clear hown hKb hB hb3 hbs hm
      cases hnd : needB t (wout l i)
      · have HND := Lib.hid hnd
        clear hnd
        go_wp2_with fail
        go_roundw
        case rel => exact ⟨i + 1, by omega, by go_num, by rw [HF.out, HND.out]; simpa using hown3, hnb, hKb3, hB3, hbs3⟩
        case measure => simp [intOf]; omega
      · have HND := Lib.hid hnd
        clear hnd
        go_wp2_with (first | ((with_reducible refine wpList_push 24 9 _ _ (w.heap.size) ((neeK l i).length) 16 (u3) (.string S) (.string ⟨#[]⟩) (_) Try.underlying24 infoS rfl rfl rfl ?_ ?_ ?_ (hown3) (hB3.size) (by omega) (by decide) ?_); rfl; rfl; rfl; intro v2 w2 hown2 hg2 hat2 hbel2; (try simp only [Act.put, List.setIfInBounds_toArray, List.set_cons_succ, List.set_cons_zero, World.size_alloc, Nat.add_assoc, Nat.reduceAdd])) | fail)
        go_roundw
        case rel =>
          refine ⟨i + 1, by omega, by go_num, ?_, ?_, ?_, below_grown hB3 hbel2 (Nat.le_refl _), Nat.lt_of_lt_of_le hbs3 hg2.size⟩
          · rw [HF.out, HND.out, if_pos rfl, List.length_append]
            have : textsV (neeK l i ++ [t]) = textsV (neeK l i) ++ [.string S] := by rw [HSS.out]; simp [textsV]
            rw [this]
            exact hown2
          · rcases hat2 with h | h
            · rw [h]; exact hnb
            · rw [h]; simp; omega
          · exact (hg2.block b hbs3 (fun e => hnb e.symm)).trans hKb3.out
        case measure => simp [intOf]; omega
    · obtain rfl : i = n := by omega
      have HE := Lib.hid (show Z = neeK l i by rw [HC0.out, HN.out])
      go_wp2_with fail
      go_ret
      exact ⟨⟨_, rfl, by rw [HE.out]; exact Res.of_own hown⟩, hB⟩

end Go.Proofs.Ytnplaiolencgjaa
