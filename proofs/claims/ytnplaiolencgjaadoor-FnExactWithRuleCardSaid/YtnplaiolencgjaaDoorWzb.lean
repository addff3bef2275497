/- Walks: the laws on networks, the program. -/
import Derived.Test.YtnplaiolencgjaaDoorWza
import Derived.Test.YtnplaiolencgjaaDoorWz9
namespace Go.Proofs.YtnplaiolencgjaaDoor
set_option linter.unusedVariables false
set_option linter.unusedSimpArgs false
open Go.RowKit

theorem networkValidI (s : ByteArray) (w : World) (hs : s.size ≤ 1048576) (hm : Ml w) :
    Calls Tryd.prog 14 #[.string s] w fun e w' => e = .returned (.bool (wOk (netL s))) ∧ Below w.heap.size w w' := by
  have O := Lib.hid (readNetworkC s w hs hm)
  generalize netL s = ts at *
  clear hm
  go_enter Tryd.func14, Tryd.ntmps14
  go_wp2_with fail
  refine O.out.mono ?_
  rintro e w1 ⟨A, c, rfl, hO⟩
  go_wp2_with fail
  go_ret
  exact ⟨rfl, hO.2.2.2.2⟩

theorem sizeV_no {ts : List (List UInt8)} (h : wOk ts = false) : sizeV ts = -1 := by unfold sizeV; rw [h]; rfl
theorem sizeV_yes {ts : List (List UInt8)} (h : wOk ts = true) : sizeV ts = (ts.length : Nat) := by unfold sizeV; rw [h]; rfl
theorem sizeOfI (s : ByteArray) (w : World) (hs : s.size ≤ 1048576) (hm : Ml w) :
    Calls Tryd.prog 16 #[.string s] w fun e w' => e = .returned (.int .i64 (sizeV (netL s))) ∧ Below w.heap.size w w' := by
  have O := Lib.hid (readNetworkC s w hs hm)
  generalize netL s = ts at *
  clear hm
  cases hok : wOk ts
  · rw [wTexts_no hok, hok] at O
    have HV := Lib.hid (sizeV_no hok)
    clear hok
    go_enter Tryd.func16, Tryd.ntmps16
    go_wp2_with fail
    refine O.out.mono ?_
    rintro e w1 ⟨A, c, rfl, hO⟩
    go_wp2_with fail
    go_ret
    exact ⟨ret_int HV.out.symm, hO.2.2.2.2⟩
  · rw [wTexts_yes hok, hok] at O
    have HV := Lib.hid (sizeV_yes hok)
    clear hok
    go_enter Tryd.func16, Tryd.ntmps16
    go_wp2_with fail
    refine O.out.mono ?_
    rintro e w1 ⟨A, c, rfl, hO⟩
    go_wp2_with fail
    go_ret
    exact ⟨ret_int HV.out.symm, hO.2.2.2.2⟩

theorem stateOfC (s : ByteArray) (a : Int) (w : World) (hs : s.size ≤ 1048576) (hm : Ml w) :
    Calls Tryd.prog 41 #[.string s, .int .i64 a] w fun e w' => ∃ A c, e = .returned (.tuple #[.slice A (wTexts (netL s)).length c, .bool (stOk (netL s) a)]) ∧ Read w w' A c (wTexts (netL s)) := by
  have O := Lib.hid (readNetworkC s w hs hm)
  generalize netL s = ts at *
  clear hm
  cases hok : wOk ts
  · rw [wTexts_no hok, hok] at O
    have HT := Lib.hid (wTexts_no hok)
    have HV := Lib.hid (show stOk ts a = false by unfold stOk; rw [hok]; rfl)
    clear hok
    go_enter Tryd.func41, Tryd.ntmps41
    go_wp2_with fail
    refine O.out.mono ?_
    rintro e w1 ⟨A, c, rfl, hO⟩
    go_wp2_with fail
    go_ret2
    rw [HT.out, HV.out]
    exact ⟨A, c, rfl, hO⟩
  · rw [wTexts_yes hok, hok] at O
    have HT := Lib.hid (wTexts_yes hok)
    have h5 := wOk_five hok
    have ST := Lib.hid (fun A c w => statesI A ts.length c w h5)
    have HV := Lib.hid (show stOk ts a = (decide (0 ≤ a) && decide (a ≤ ((2 ^ ts.length : Nat) : Int) - 1)) by unfold stOk; rw [hok, Bool.true_and])
    generalize 2 ^ ts.length = M at *
    clear hok
    by_cases h0 : 0 ≤ a
    · by_cases h1 : a < (M : Int)
      · have HB := Lib.hid (show stOk ts a = true by rw [HV.out]; simp; omega)
        go_enter Tryd.func41, Tryd.ntmps41
        go_wp2_with fail
        refine O.out.mono ?_
        rintro e w1 ⟨A, c, rfl, hO⟩
        go_wp2_with (first | (go_at_call 56; (with_reducible refine (ST.out _ _ _).mono ?_); rintro e w3 ⟨rfl, rfl⟩) | fail)
        go_ret2
        rw [HT.out, HB.out]
        exact ⟨A, c, rfl, hO⟩
      · have HB := Lib.hid (show stOk ts a = false by rw [HV.out]; simp; omega)
        go_enter Tryd.func41, Tryd.ntmps41
        go_wp2_with fail
        refine O.out.mono ?_
        rintro e w1 ⟨A, c, rfl, hO⟩
        go_wp2_with (first | (go_at_call 56; (with_reducible refine (ST.out _ _ _).mono ?_); rintro e w3 ⟨rfl, rfl⟩) | fail)
        go_ret2
        rw [HT.out, HB.out]
        refine ⟨A, c, ?_, hO⟩
        show Ending.returned (.tuple #[.slice A ts.length c, .bool (decide (a < (M : Int)))]) = _
        rw [decide_eq_false (by omega)]
    · have HB := Lib.hid (show stOk ts a = false by rw [HV.out]; simp; omega)
      go_enter Tryd.func41, Tryd.ntmps41
      go_wp2_with fail
      refine O.out.mono ?_
      rintro e w1 ⟨A, c, rfl, hO⟩
      go_wp2_with fail
      go_ret2
      rw [HT.out, HB.out]
      exact ⟨A, c, rfl, hO⟩

theorem switchOfC (s : ByteArray) (i : Int) (w : World) (hs : s.size ≤ 1048576) (hm : Ml w) :
    Calls Tryd.prog 34 #[.string s, .int .i64 i] w fun e w' => ∃ A c, e = .returned (.tuple #[.slice A (wTexts (netL s)).length c, .bool (swOk (netL s) i)]) ∧ Read w w' A c (wTexts (netL s)) := by
  have O := Lib.hid (readNetworkC s w hs hm)
  generalize netL s = ts at *
  clear hm
  cases hok : wOk ts
  · rw [wTexts_no hok, hok] at O
    have HT := Lib.hid (wTexts_no hok)
    have HV := Lib.hid (show swOk ts i = false by unfold swOk; rw [hok]; rfl)
    clear hok
    go_enter Tryd.func34, Tryd.ntmps34
    go_wp2_with fail
    refine O.out.mono ?_
    rintro e w1 ⟨A, c, rfl, hO⟩
    go_wp2_with fail
    go_ret2
    rw [HT.out, HV.out]
    exact ⟨A, c, rfl, hO⟩
  · rw [wTexts_yes hok, hok] at O
    have HT := Lib.hid (wTexts_yes hok)
    have HV := Lib.hid (show swOk ts i = (decide (0 ≤ i) && decide (i ≤ (ts.length : Int) - 1)) by unfold swOk; rw [hok, Bool.true_and])
    clear hok
    by_cases h0 : 0 ≤ i
    · by_cases h1 : i < (ts.length : Int)
      · have HB := Lib.hid (show swOk ts i = true by rw [HV.out]; simp; omega)
        go_enter Tryd.func34, Tryd.ntmps34
        go_wp2_with fail
        refine O.out.mono ?_
        rintro e w1 ⟨A, c, rfl, hO⟩
        go_wp2_with fail
        go_ret2
        rw [HT.out, HB.out]
        exact ⟨A, c, rfl, hO⟩
      · have HB := Lib.hid (show swOk ts i = false by rw [HV.out]; simp; omega)
        go_enter Tryd.func34, Tryd.ntmps34
        go_wp2_with fail
        refine O.out.mono ?_
        rintro e w1 ⟨A, c, rfl, hO⟩
        go_wp2_with fail
        go_ret2
        rw [HT.out, HB.out]
        refine ⟨A, c, ?_, hO⟩
        show Ending.returned (.tuple #[.slice A ts.length c, .bool (decide (i < (ts.length : Int)))]) = _
        rw [decide_eq_false (by omega)]
    · have HB := Lib.hid (show swOk ts i = false by rw [HV.out]; simp; omega)
      go_enter Tryd.func34, Tryd.ntmps34
      go_wp2_with fail
      refine O.out.mono ?_
      rintro e w1 ⟨A, c, rfl, hO⟩
      go_wp2_with fail
      go_ret2
      rw [HT.out, HB.out]
      exact ⟨A, c, rfl, hO⟩

end Go.Proofs.YtnplaiolencgjaaDoor
