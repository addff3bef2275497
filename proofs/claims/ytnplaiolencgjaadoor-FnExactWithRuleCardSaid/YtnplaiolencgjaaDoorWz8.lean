/- Walks: the laws on states of networks, the reference. -/
import Derived.Test.YtnplaiolencgjaaDoorWz7
import Derived.Test.YtnplaiolencgjaaDoorWo
namespace Go.Proofs.YtnplaiolencgjaaDoor
set_option linter.unusedVariables false
set_option linter.unusedSimpArgs false
open Go.RowKit

theorem l3StateC (s : ByteArray) (a : Int) (w : World) (hs : s.size ≤ 1048576) :
    Calls Tryd.prog 39 #[.string s, .int .i64 a] w fun e w' => ∃ A c, e = .returned (.tuple #[.slice A (wTexts (netL s)).length c, .bool (stOk (netL s) a)]) ∧ Opened w w' A c (wTexts (netL s)) := by
  have O := Lib.hid (l3OpenC s w hs)
  generalize netL s = ts at *
  cases hok : wOk ts
  · rw [wTexts_no hok, hok] at O
    have HT := Lib.hid (wTexts_no hok)
    have HV := Lib.hid (show stOk ts a = false by unfold stOk; rw [hok]; rfl)
    clear hok
    go_enter Tryd.func39, Tryd.ntmps39
    go_wp2_with fail
    refine O.out.mono ?_
    rintro e w1 ⟨A, c, rfl, hO⟩
    go_wp2_with fail
    go_ret2
    rw [HT.out, HV.out]
    exact ⟨A, c, rfl, hO⟩
  · rw [wTexts_yes hok, hok] at O
    have HT := Lib.hid (wTexts_yes hok)
    have h5 := wOk_five hok
    obtain ⟨b, hb⟩ : ∃ b, stOk ts a = b := ⟨_, rfl⟩
    have IN := Lib.hid (fun w => l1In a 0 ((2 ^ ts.length - 1 : Nat) : Int) w)
    have hp := Nat.two_pow_pos ts.length
    rw [show (decide (0 ≤ a) && decide (a ≤ ((2 ^ ts.length - 1 : Nat) : Int))) = b by rw [← hb]; unfold stOk; rw [hok, Bool.true_and, show ((2 ^ ts.length - 1 : Nat) : Int) = ((2 ^ ts.length : Nat) : Int) - 1 by omega]] at IN
    have HV := Lib.hid hb
    clear hok hb hp
    have AL := Lib.hid (fun A c w => l3AllS A ts.length c w h5)
    obtain ⟨M, hM⟩ : ∃ M, 2 ^ ts.length - 1 = M := ⟨_, rfl⟩
    rw [hM] at AL IN
    clear hM
    go_enter Tryd.func39, Tryd.ntmps39
    go_wp2_with fail
    refine O.out.mono ?_
    rintro e w1 ⟨A, c, rfl, hO⟩
    go_wp2_with (first | (go_at_call 43; (with_reducible refine (AL.out _ _ _).mono ?_); rintro e w3 ⟨rfl, rfl⟩) | (go_at_call 31; (with_reducible refine (IN.out _).mono ?_); rintro e w3 ⟨rfl, rfl⟩) | fail)
    go_ret2
    rw [HT.out, HV.out]
    exact ⟨A, c, rfl, hO⟩

theorem allV_no {ts : List (List UInt8)} {a : Int} (h : stOk ts a = false) : allV ts a = -1 := by unfold allV; rw [h]; rfl
theorem allV_yes {ts : List (List UInt8)} {k : Nat} (h : stOk ts k = true) : allV ts k = (nextN ts k : Nat) := by unfold allV; rw [h, if_pos rfl, Int.toNat_natCast]

theorem stepAllS (s : ByteArray) (a : Int) (w : World) (hs : s.size ≤ 1048576) :
    Calls Tryd.prog 21 #[.string s, .int .i64 a] w fun e w' => e = .returned (.int .i64 (allV (netL s) a)) ∧ Below w.heap.size w w' := by
  have O := Lib.hid (l3StateC s a w hs)
  generalize netL s = ts at *
  cases hst : stOk ts a
  · rw [hst] at O
    have HV := Lib.hid (allV_no hst)
    clear hst
    go_enter Tryd.func21, Tryd.ntmps21
    go_wp2_with fail
    refine O.out.mono ?_
    rintro e w1 ⟨A, c, rfl, hO⟩
    go_wp2_with fail
    go_ret
    exact ⟨ret_int HV.out.symm, hO.2.2.2.2⟩
  · obtain ⟨k, rfl, hk, hok⟩ := stOk_state hst
    rw [hst, wTexts_yes hok] at O
    have h5 := wOk_five hok
    have hp32 := pow_le32 _ h5
    have HV := Lib.hid (allV_yes hst)
    have AL := Lib.hid (fun A c w => l3AllS A ts.length c w h5)
    have ST := Lib.hid (fun v w => l3StepS ts v k (2 ^ ts.length - 1) w hok hk (by omega))
    rw [step_all hok k ts.length h5 hk] at ST
    rw [show nextK ts k ts.length = nextN ts k from rfl] at ST
    generalize 2 ^ ts.length - 1 = M at *
    clear hst hp32 hk
    go_enter Tryd.func21, Tryd.ntmps21
    go_wp2_with fail
    refine O.out.mono ?_
    rintro e w1 ⟨A, c, rfl, hO⟩
    have HR := hO.2.2.1
    go_wp2_with (first | (go_at_call 43; (with_reducible refine (AL.out _ _ _).mono ?_); rintro e w3 ⟨rfl, rfl⟩) | (go_at_call 40; (with_reducible refine (ST.out _ _ HR.out).mono ?_); rintro e w3 ⟨rfl, rfl⟩) | fail)
    go_ret
    exact ⟨ret_int HV.out.symm, hO.2.2.2.2⟩

theorem nextN_lt {ts : List (List UInt8)} (h : wOk ts = true) (k : Nat) (hk : k < 2 ^ ts.length) : nextN ts k < 2 ^ ts.length := by
  have h5 := wOk_five h
  have := pow_le32 _ h5
  exact nextK_lt h k ts.length h5 (by omega) _ (Nat.le_refl _)
theorem restV_no {ts : List (List UInt8)} {a : Int} (h : stOk ts a = false) : restV ts a = -1 := by unfold restV; rw [h]; rfl
theorem restV_yes {ts : List (List UInt8)} {k : Nat} (h : stOk ts k = true) : restV ts k = ((nextN ts k ^^^ k : Nat) : Int) := by unfold restV; rw [h, if_pos rfl, Int.toNat_natCast]

theorem restlessOfS (s : ByteArray) (a : Int) (w : World) (hs : s.size ≤ 1048576) :
    Calls Tryd.prog 23 #[.string s, .int .i64 a] w fun e w' => e = .returned (.int .i64 (restV (netL s) a)) ∧ Below w.heap.size w w' := by
  have O := Lib.hid (stepAllS s a w hs)
  generalize netL s = ts at *
  cases hst : stOk ts a
  · rw [allV_no hst] at O
    have HV := Lib.hid (restV_no hst)
    clear hst
    go_enter Tryd.func23, Tryd.ntmps23
    go_wp2_with fail
    refine O.out.mono ?_
    rintro e w1 ⟨rfl, hB⟩
    go_wp2_with fail
    go_ret
    exact ⟨ret_int HV.out.symm, hB⟩
  · obtain ⟨k, rfl, hk, hok⟩ := stOk_state hst
    rw [allV_yes hst] at O
    have h5 := wOk_five hok
    have hp32 := pow_le32 _ h5
    have hnx := nextN_lt hok k hk
    have HV := Lib.hid (restV_yes hst)
    have HX := Lib.hid (xorN (nextN ts k) k (by omega) (by omega))
    have hx1 : (0 : Int) ≤ (nextN ts k : Nat) := Int.natCast_nonneg _
    generalize nextN ts k = N at *
    clear hst hk hp32 hnx
    go_enter Tryd.func23, Tryd.ntmps23
    go_wp2_with fail
    refine O.out.mono ?_
    rintro e w1 ⟨rfl, hB⟩
    go_wp2_with fail
    go_ret
    exact ⟨ret_int (by rw [HV.out]; exact HX.out), hB⟩

theorem oneV_no {ts : List (List UInt8)} {a i : Int} (h : stOk ts a = false) : oneV ts a i = -1 := by unfold oneV; rw [h]; rfl
theorem oneV_far {ts : List (List UInt8)} {a i : Int} (h : (decide (0 ≤ i) && decide (i ≤ (ts.length : Int) - 1)) = false) : oneV ts a i = -1 := by unfold oneV; rw [h, Bool.and_false]; rfl
theorem oneV_yes {ts : List (List UInt8)} {k j : Nat} (h : stOk ts k = true) (hj : j < ts.length) : oneV ts k j = (holdN k j (wv ts j k) : Nat) := by
  unfold oneV
  rw [h, if_pos (by simp; omega), Int.toNat_natCast, Int.toNat_natCast]

theorem stepOneS (s : ByteArray) (a i : Int) (w : World) (hs : s.size ≤ 1048576) :
    Calls Tryd.prog 19 #[.string s, .int .i64 a, .int .i64 i] w fun e w' => e = .returned (.int .i64 (oneV (netL s) a i)) ∧ Below w.heap.size w w' := by
  have O := Lib.hid (l3StateC s a w hs)
  generalize netL s = ts at *
  cases hst : stOk ts a
  · rw [hst] at O
    have HV := Lib.hid (oneV_no (i := i) hst)
    clear hst
    go_enter Tryd.func19, Tryd.ntmps19
    go_wp2_with fail
    refine O.out.mono ?_
    rintro e w1 ⟨A, c, rfl, hO⟩
    go_wp2_with fail
    go_ret
    exact ⟨ret_int HV.out.symm, hO.2.2.2.2⟩
  · obtain ⟨k, rfl, hk, hok⟩ := stOk_state hst
    rw [hst, wTexts_yes hok] at O
    have h5 := wOk_five hok
    have IN := Lib.hid (fun w => l1In i 0 ((ts.length : Int) - 1) w)
    cases hsw : (decide (0 ≤ i) && decide (i ≤ (ts.length : Int) - 1))
    · rw [hsw] at IN
      have HV := Lib.hid (oneV_far (a := k) hsw)
      clear hst hsw hk hok
      go_enter Tryd.func19, Tryd.ntmps19
      go_wp2_with fail
      refine O.out.mono ?_
      rintro e w1 ⟨A, c, rfl, hO⟩
      obtain ⟨k1, k2, _, _, hB⟩ := hO
      go_wp2_with (first | (go_at_call 31; (with_reducible refine (IN.out _).mono ?_); rintro e w3 ⟨rfl, rfl⟩) | fail)
      go_ret
      exact ⟨ret_int HV.out.symm, hB⟩
    · rw [hsw] at IN
      simp only [Bool.and_eq_true, decide_eq_true_eq] at hsw
      obtain ⟨j, rfl⟩ : ∃ j : Nat, i = j := ⟨i.toNat, by omega⟩
      have hj : j < ts.length := by omega
      have hj5 : j < 5 := by omega
      have HV := Lib.hid (oneV_yes hst hj)
      have hp : 2 ^ j ≤ 32 := pow_le32 j (by omega)
      have ST := Lib.hid (fun v w => l3StepS ts v k (2 ^ j) w hok hk (by omega))
      rw [step_one ts k j hj5 ts.length h5, if_pos hj, ← wrap_pow j (by omega)] at ST
      clear hst hk hok hsw hp
      go_enter Tryd.func19, Tryd.ntmps19
      go_wp2_with fail
      refine O.out.mono ?_
      rintro e w1 ⟨A, c, rfl, hO⟩
      obtain ⟨k1, k2, HR, _, hB⟩ := hO
      go_wp2_with (first | (go_at_call 31; (with_reducible refine (IN.out _).mono ?_); rintro e w3 ⟨rfl, rfl⟩) | (go_at_call 40; (with_reducible refine (ST.out _ _ HR.out).mono ?_); rintro e w3 ⟨rfl, rfl⟩) | fail)
      go_ret
      exact ⟨ret_int HV.out.symm, hB⟩

end Go.Proofs.YtnplaiolencgjaaDoor
