/- Walks: another rule of a switch, the reference. -/
import Derived.Test.YtnplaiolencgjaaDoorWjd
namespace Go.Proofs.YtnplaiolencgjaaDoor
set_option linter.unusedVariables false
set_option linter.unusedSimpArgs false
open Go.RowKit

def wrOk (ts : List (List UInt8)) (i : Int) (f : List UInt8) : Bool := swOk ts i && tabN ts.length f
def wrL (ts : List (List UInt8)) (i : Int) (f : List UInt8) : List UInt8 := joinL (ts.set i.toNat f)
def wrV (ts : List (List UInt8)) (i : Int) (f : List UInt8) : Value := .tuple #[.string (strI (wrOk ts i f) (wrL ts i f)), .bool (wrOk ts i f)]
theorem wrV_no {ts : List (List UInt8)} {i : Int} {f : List UInt8} (h : wrOk ts i f = false) : wrV ts i f = .tuple #[.string ⟨#[]⟩, .bool false] := by unfold wrV; rw [h]; rfl
theorem wrV_yes {ts : List (List UInt8)} {k : Nat} {f : List UInt8} (h : wrOk ts k f = true) : wrV ts k f = .tuple #[.string ⟨(joinL (ts.set k f)).toArray⟩, .bool true] := by unfold wrV wrL; rw [h, Int.toNat_natCast]; rfl
theorem wrOk_sw {ts : List (List UInt8)} {i : Int} {f : List UInt8} (h : swOk ts i = false) : wrOk ts i f = false := by unfold wrOk; rw [h]; rfl
theorem wrOk_tab {ts : List (List UInt8)} {i : Int} {f : List UInt8} (h : isTab f = false) : wrOk ts i f = false := by unfold wrOk; rw [tabN_bad _ _ h, Bool.and_false]
theorem wrOk_is {ts : List (List UInt8)} {i : Int} {f : List UInt8} (h : swOk ts i = true) (hf : isTab f = true) : wrOk ts i f = decide (lgN f.length = ts.length) := by unfold wrOk; rw [h, tabN_is _ _ hf, Bool.true_and]
theorem wOk_set {ts : List (List UInt8)} (k : Nat) {f : List UInt8} (h : wOk ts = true) (hf : tabN ts.length f = true) : wOk (ts.set k f) = true := by
  unfold wOk
  rw [List.length_set]
  refine List.all_eq_true.2 fun x hx => ?_
  rcases List.mem_or_eq_of_mem_set hx with h1 | h1
  · exact List.all_eq_true.1 h x h1
  · rw [h1]; exact hf
theorem wOk_32 {ts : List (List UInt8)} (h : wOk ts = true) : ∀ x ∈ ts, x.length ≤ 32 := fun x hx => by
  obtain ⟨k, hk⟩ := List.mem_iff_getElem?.1 hx
  rw [wOk_len h hk]
  exact pow_le32 _ (wOk_five h)

/-- What l3Open hands back, with the block. -/
theorem l3OpenR (s : ByteArray) (w : World) (hs : s.size ≤ 1048576) :
    Calls Tryd.prog 30 #[.string s] w fun e w' => ∃ A c, e = .returned (.tuple #[.slice A (wTexts (netL s)).length c, .bool (wOk (netL s))]) ∧ (wTexts (netL s)).length ≤ c ∧ c ≤ 9223372036854775807 ∧
      Hid (∀ (k : Nat) t, (wTexts (netL s))[k]? = some t → ∃ g cur, A = some ⟨g, 0, none⟩ ∧ w.heap.size ≤ g ∧ w'.heap[g]? = some (.cells cur 9 (0, 0)) ∧ ∀ (j : Nat) u, (textsV (wTexts (netL s)))[j]? = some u → cur[j]? = some u) ∧ Below w.heap.size w w' := by
  refine (l3OpenS s w hs).mono ?_
  rintro e w' ⟨v, rfl, hr, hB⟩
  obtain ⟨A, c, rfl, k1, k2, hc⟩ := hr
  have e1 := textsV_length (wTexts (cutG 44 [] s.data.toList))
  refine ⟨A, c, by rw [e1]; rfl, by rw [e1] at k1; exact k1, by unfold maxLen at k2; omega, fun k t ht => ?_, hB⟩
  exact hc (by intro e2; have e3 := textsV_get _ _ _ ht; rw [show textsV (wTexts (netL s)) = [] from e2] at e3; cases e3)

theorem withRuleS (s : ByteArray) (i : Int) (f : ByteArray) (w : World) (hs : s.size ≤ 1048576) (hf : f.size ≤ 1048576) :
    Calls Tryd.prog 11 #[.string s, .int .i64 i, .string f] w fun e w' => e = .returned (wrV (netL s) i f.data.toList) ∧ Below w.heap.size w w' := by
  have O := Lib.hid (l3OpenR s w hs)
  generalize netL s = ts at *
  have TV := Lib.hid (fun w => tableValidS f w (by unfold maxLen; omega))
  cases hok : wOk ts
  · rw [wTexts_no hok, hok] at O
    have HV := Lib.hid (wrV_no (wrOk_sw (f := f.data.toList) (show swOk ts i = false by unfold swOk; rw [hok]; rfl)))
    clear hok
    go_enter Tryd.func11, Tryd.ntmps11
    go_wp2_with fail
    refine O.out.mono ?_
    rintro e w1 ⟨A, c, rfl, k1, k2, _, hB⟩
    go_wp2_with fail
    go_ret2
    exact ⟨by rw [HV.out]; rfl, hB⟩
  · rw [wTexts_yes hok, hok] at O
    have h5 := wOk_five hok
    have IN := Lib.hid (fun w => l1In i 0 ((ts.length : Int) - 1) w)
    cases hsw : swOk ts i
    · have HV := Lib.hid (wrV_no (wrOk_sw (f := f.data.toList) hsw))
      rw [show (decide (0 ≤ i) && decide (i ≤ (ts.length : Int) - 1)) = false by unfold swOk at hsw; rw [hok] at hsw; simpa using hsw] at IN
      clear hok hsw
      go_enter Tryd.func11, Tryd.ntmps11
      go_wp2_with fail
      refine O.out.mono ?_
      rintro e w1 ⟨A, c, rfl, k1, k2, _, hB⟩
      go_wp2_with (first | (go_at_call 31; (with_reducible refine (IN.out _).mono ?_); rintro e w3 ⟨rfl, rfl⟩) | fail)
      go_ret2
      exact ⟨by rw [HV.out]; rfl, hB⟩
    · rw [show (decide (0 ≤ i) && decide (i ≤ (ts.length : Int) - 1)) = true by unfold swOk at hsw; rw [hok] at hsw; simpa using hsw] at IN
      cases hft : isTab f.data.toList
      · have HV := Lib.hid (wrV_no (wrOk_tab (ts := ts) (i := i) hft))
        rw [hft] at TV
        clear hok hsw hft
        go_enter Tryd.func11, Tryd.ntmps11
        go_wp2_with fail
        refine O.out.mono ?_
        rintro e w1 ⟨A, c, rfl, k1, k2, _, hB⟩
        go_wp2_with (first | (go_at_call 31; (with_reducible refine (IN.out _).mono ?_); rintro e w3 ⟨rfl, rfl⟩) | (go_at_call 32; (with_reducible refine (TV.out _).mono ?_); rintro e w3 ⟨rfl, rfl⟩) | fail)
        go_ret2
        exact ⟨by rw [HV.out]; rfl, hB⟩
      · rw [hft] at TV
        have hwr := wrOk_is hsw hft
        obtain ⟨k, t, rfl, hk, ht, _⟩ := swOk_switch hsw
        have hn0 : 0 < ts.length := by omega
        obtain ⟨t0, ht0⟩ : ∃ t0, ts[0]? = some t0 := ⟨_, List.getElem?_eq_getElem hn0⟩
        have hl0 := wOk_len hok ht0
        have hlf : f.size = 2 ^ lgN f.data.toList.length := (lgN_pos _ (isTab_pos _ hft).1).2.2.1
        obtain ⟨S0, hS0⟩ : ∃ S : ByteArray, S = ⟨t0.toArray⟩ := ⟨_, rfl⟩
        have hs0 : S0.size = 2 ^ ts.length := by rw [← hl0, hS0]; rfl
        obtain ⟨S1, hS1⟩ : ∃ S : ByteArray, S = ⟨t.toArray⟩ := ⟨_, rfl⟩
        have HG := Lib.hid (show ∀ (j : Nat) u, ts[j]? = some u → (textsV ts)[j]? = some (.string ⟨u.toArray⟩) from fun j u hu => textsV_get ts j u hu)
        by_cases heq : lgN f.data.toList.length = ts.length
        · have hok2 : wrOk ts k f.data.toList = true := by rw [hwr]; simpa using heq
          have HV := Lib.hid (wrV_yes hok2)
          have hset := wOk_set k hok (f := f.data.toList) (by rw [tabN_is _ _ hft]; simpa using heq)
          have LT := Lib.hid (fun v w h => l3TextS (ts.set k f.data.toList) v w (by rw [List.length_set]; omega) (wOk_32 hset) h)
          have hne : ((f.size : Int) != (S0.size : Int)) = false := by rw [hlf, hs0, heq]; simp
          have HT := Lib.hid ht
          have HT0 := Lib.hid ht0
          have HSL := Lib.hid (show (textsV (ts.set k f.data.toList)) = (textsV ts).set k (.string f) by unfold textsV; rw [List.map_set])
          have HTL := Lib.hid (textsV_length ts)
          have HS0 := Lib.hid hS0
          have HS1 := Lib.hid hS1
          obtain ⟨n, hn⟩ : ∃ n, ts.length = n := ⟨_, rfl⟩
          rw [hn] at O IN hk h5 hn0
          have HN := Lib.hid hn
          clear hok hsw hft hwr ht ht0 hl0 hlf hs0 heq hok2 hset hn hS0 hS1
          go_enter Tryd.func11, Tryd.ntmps11
          go_wp2_with fail
          refine O.out.mono ?_
          rintro e w1 ⟨A, c, rfl, k1, k2, hT, hB⟩
          obtain ⟨g, cur, rfl, hg, hheap, hcur⟩ := hT.out k t HT.out
          have c0 : w1.cell? ⟨g, 0, none⟩ = some (.string S0) := by rw [cell_of_row _ _ _ _ _ _ hheap, HS0.out]; exact hcur _ _ (HG.out _ _ HT0.out)
          have c1 : w1.cell? ⟨g, k, none⟩ = some (.string S1) := by rw [cell_of_row _ _ _ _ _ _ hheap, HS1.out]; exact hcur _ _ (HG.out _ _ HT.out)
          have c2 : w1.frozen? ⟨g, k, none⟩ = false := frozen_of_row _ _ _ _ _ hheap
          have HR := Lib.hid (show Row (w1.setCell ⟨g, k, none⟩ (.string f)) (.slice (some ⟨g, 0, none⟩) n c) (textsV (ts.set k f.data.toList)) from by
            refine ⟨some ⟨g, 0, none⟩, c, ?_, ?_, ?_, fun _ => ⟨g, 0, rfl, ?_, fun j u hu => ?_⟩⟩
            · rw [HSL.out, List.length_set, HTL.out, HN.out]
            · rw [HSL.out, List.length_set, HTL.out, HN.out]; exact k1
            · unfold maxLen; omega
            · have := lt_of_block hheap
              simpa [World.setCell] using this
            · have hnew := heap_setCell_same w1 g k cur 9 (.string f) hheap
              rw [Nat.zero_add, cell_of_row _ _ _ _ _ _ hnew, Array.getElem?_setIfInBounds]
              rw [HSL.out] at hu
              rw [List.getElem?_set] at hu
              by_cases e : k = j
              · rw [if_pos e] at hu ⊢
                have hkl : k < (textsV ts).length := by rw [HTL.out, HN.out]; exact hk
                rw [if_pos hkl] at hu
                have hks : k < cur.size := (Array.getElem?_eq_some_iff.1 (hcur _ _ (HG.out _ _ HT.out))).1
                rw [if_pos hks]; exact hu
              · rw [if_neg e] at hu ⊢
                exact hcur _ _ hu)
          have HB := Lib.hid (hB.setCell (p := ⟨g, k, none⟩) hg (.string f))
          clear hheap hcur hT
          go_wp2_with (first | (go_at_call 31; (with_reducible refine (IN.out _).mono ?_); rintro e w3 ⟨rfl, rfl⟩) | (go_at_call 32; (with_reducible refine (TV.out _).mono ?_); rintro e w3 ⟨rfl, rfl⟩) | (go_at_call 33; (with_reducible refine (LT.out _ _ HR.out).mono ?_); rintro e w3 ⟨rfl, rfl⟩) | fail)
          go_ret2
          exact ⟨by rw [HV.out]; rfl, HB.out⟩
        · have HV := Lib.hid (wrV_no (ts := ts) (i := k) (f := f.data.toList) (by rw [hwr]; simpa using heq))
          have hne : ((f.size : Int) != (S0.size : Int)) = true := by
            rw [bne_iff_ne]; intro e
            have e2 : f.size = S0.size := by omega
            rw [hlf, hs0] at e2
            exact heq ((Nat.pow_right_inj (by decide : 1 < 2)).1 e2)
          have HT0 := Lib.hid ht0
          have HS0 := Lib.hid hS0
          obtain ⟨n, hn⟩ : ∃ n, ts.length = n := ⟨_, rfl⟩
          rw [hn] at O IN hk h5 hn0
          have HN := Lib.hid hn
          clear hok hsw hft hwr ht ht0 hl0 hlf hs0 heq hn hS0 hS1
          go_enter Tryd.func11, Tryd.ntmps11
          go_wp2_with fail
          refine O.out.mono ?_
          rintro e w1 ⟨A, c, rfl, k1, k2, hT, hB⟩
          obtain ⟨g, cur, rfl, hg, hheap, hcur⟩ := hT.out 0 t0 HT0.out
          have c0 : w1.cell? ⟨g, 0, none⟩ = some (.string S0) := by rw [cell_of_row _ _ _ _ _ _ hheap, HS0.out]; exact hcur _ _ (HG.out _ _ HT0.out)
          clear hheap hcur hT
          go_wp2_with (first | (go_at_call 31; (with_reducible refine (IN.out _).mono ?_); rintro e w3 ⟨rfl, rfl⟩) | (go_at_call 32; (with_reducible refine (TV.out _).mono ?_); rintro e w3 ⟨rfl, rfl⟩) | fail)
          go_ret2
          exact ⟨by rw [HV.out]; rfl, hB⟩

end Go.Proofs.YtnplaiolencgjaaDoor
