/- Walks: is a text a formula, the reference. -/
import Derived.Test.YtdpojljcefglmaaWg2
namespace Go.Proofs.Ytdpojljcefglmaa
set_option linter.unusedVariables false
set_option linter.unusedSimpArgs false
open Go.RowKit

/-- Where a formula ends. -/
def endV (len : Nat) : Option (Fm × List UInt8) → Int
  | some (_, m) => ((len - m.length : Nat) : Int)
  | none => -1

theorem l2End_neg (e : ByteArray) (n : Nat) (w : World) :
    Calls Try.prog 31 #[.string e, .int .i64 (-1), .int .i64 (n : Int)] w fun e' w' => e' = .returned (.int .i64 (-1)) ∧ w = w' := by
  go_enter Try.func31, Try.ntmps31
  go_wp2_with fail
  go_ret
  exact ⟨rfl, rfl⟩

theorem l2End_past (e : ByteArray) (n : Nat) (w : World) (h : e.size ≤ maxLen) :
    Calls Try.prog 31 #[.string e, .int .i64 (e.size : Int), .int .i64 (n : Int)] w fun e' w' => e' = .returned (.int .i64 (-1)) ∧ w = w' := by
  go_enter Try.func31, Try.ntmps31
  go_wp2_with fail
  go_ret
  exact ⟨rfl, rfl⟩

theorem drop_head (e : ByteArray) (k : Nat) (h : k < e.size) : e.data.toList.drop k = e[k] :: e.data.toList.drop (k + 1) := by
  have h' : k < e.data.toList.length := h
  rw [List.drop_eq_getElem_cons h']; rfl

set_option maxHeartbeats 1000000 in
theorem l2EndS (e : ByteArray) (n : Nat) (hn : n ≤ 5) (h100 : e.size ≤ 100) (k : Nat) : ∀ (p : Nat) (w : World), p ≤ e.size → e.size ≤ p + k →
    Calls Try.prog 31 #[.string e, .int .i64 (p : Int), .int .i64 (n : Int)] w fun e' w' => e' = .returned (.int .i64 (endV e.size (pf n k (e.data.toList.drop p)))) ∧ w = w' := by
  induction k with
  | zero =>
    intro p w hp hk
    obtain rfl : p = e.size := by omega
    exact l2End_past e n w (by unfold maxLen; omega)
  | succ k ih =>
    intro p w hp hk
    by_cases hz : p = e.size
    · subst hz
      have H := Lib.hid (show endV e.size (pf n (k + 1) (e.data.toList.drop e.size)) = -1 by rw [List.drop_of_length_le (by exact Nat.le_refl _)]; rfl)
      rw [H.out]
      exact l2End_past e n w (by unfold maxLen; omega)
    have hlt : p < e.size := by omega
    have IH := Lib.hid ih
    have HE := Lib.hid (drop_head e p hlt)
    have HL := Lib.hid (show e.data.toList.length = e.size from rfl)
    rw [HE.out]
    obtain ⟨c, hc⟩ : ∃ c, e[p] = c := ⟨_, rfl⟩
    rw [hc]
    have HD1 := Lib.hid (show (e.data.toList.drop (p + 1)).length = e.size - (p + 1) by rw [List.length_drop]; rfl)
    have w1 : IntKind.i64.wrap ((p : Int) + 1) = ((p + 1 : Nat) : Int) := by rw [IntWalk.i64_in _ (by omega)]; omega
    have c256 : c.toNat < 256 := c.toNat_lt
    clear ih hz
    by_cases hd : c = 48 ∨ c = 49
    · have HP := Lib.hid (show endV e.size (pf n (k + 1) (c :: e.data.toList.drop (p + 1))) = ((p + 1 : Nat) : Int) by
        rw [pf_con n k c _ hd, endV, HD1.out]; omega)
      rcases hd with rfl | rfl
      all_goals
        go_enter Try.func31, Try.ntmps31
        go_wp2_with fail
        go_ret
        exact ⟨ret_int HP.out.symm, rfl⟩
    have n48 : ((c.toNat : Int) == 48) = false := by
      have : c.toNat ≠ 48 := fun h => hd (.inl (UInt8.toNat_inj.1 h))
      simp; omega
    have n49 : ((c.toNat : Int) == 49) = false := by
      have : c.toNat ≠ 49 := fun h => hd (.inr (UInt8.toNat_inj.1 h))
      simp; omega
    have HD := Lib.hid hd
    clear hd
    by_cases hi : 97 ≤ c.toNat ∧ c.toNat < 97 + n
    · have HP := Lib.hid (show endV e.size (pf n (k + 1) (c :: e.data.toList.drop (p + 1))) = ((p + 1 : Nat) : Int) by
        rw [pf_inp n k c _ HD.out hi, endV, HD1.out]; omega)
      have q1 : (97 : Int) ≤ (c.toNat : Int) := by omega
      have q3 : IntKind.i64.wrap ((c.toNat : Int) - 97) = (c.toNat : Int) - 97 := IntWalk.i64_in _ (by omega)
      have q4 : (c.toNat : Int) - 97 < (n : Int) := by omega
      clear hi
      go_enter Try.func31, Try.ntmps31
      go_wp2_with fail
      go_ret
      exact ⟨ret_int HP.out.symm, rfl⟩
    have q5 : decide ((97 : Int) ≤ (c.toNat : Int)) = false ∨ (decide ((97 : Int) ≤ (c.toNat : Int)) = true ∧ decide ((c.toNat : Int) - 97 < (n : Int)) = false) := by
      rcases Nat.lt_or_ge c.toNat 97 with h | h
      · exact .inl (by simp; omega)
      · exact .inr ⟨by simp; omega, by simp; omega⟩
    have q3 : IntKind.i64.wrap ((c.toNat : Int) - 97) = (c.toNat : Int) - 97 := IntWalk.i64_in _ (by omega)
    have HI := Lib.hid hi
    by_cases h33 : c = 33
    · subst h33
      have HP := Lib.hid (show endV e.size (pf n (k + 1) (33 :: e.data.toList.drop (p + 1))) = endV e.size (pf n k (e.data.toList.drop (p + 1))) by
        rw [pf_neg]; cases pf n k (e.data.toList.drop (p + 1)) with
        | none => rfl
        | some x => rfl)
      clear hi q5
      go_enter Try.func31, Try.ntmps31
      go_wp2_with fail
      refine (IH.out (p + 1) _ (by omega) (by omega)).mono ?_
      rintro e2 w2 ⟨rfl, rfl⟩
      go_wp2_with fail
      go_ret
      exact ⟨ret_int HP.out.symm, rfl⟩
    have n33 : ((c.toNat : Int) == 33) = false := by
      have : c.toNat ≠ 33 := fun h => h33 (UInt8.toNat_inj.1 h)
      simp; omega
    by_cases h3 : c = 38 ∨ c = 124 ∨ c = 94
    · have HP := Lib.hid (pf_two n k c (e.data.toList.drop (p + 1)) hi h3)
      have HFI := Lib.hid (show ∃ j : Nat, findB (⟨#[38, 124, 94]⟩ : ByteArray).data.toList c = (j : Int) by
        rcases h3 with rfl | rfl | rfl
        · exact ⟨0, by decide⟩
        · exact ⟨1, by decide⟩
        · exact ⟨2, by decide⟩)
      have HC := Lib.hid hc
      clear hi h3 h33
      obtain ⟨j, hj⟩ := HFI.out
      have HJ := Lib.hid hj
      clear hj
      rcases q5 with q5 | ⟨q5, q6⟩
      all_goals
        go_enter Try.func31, Try.ntmps31
        go_wp2_with fail
        refine (l14Find _ _ c rfl _ (by decide)).mono ?_
        rw [HJ.out]
        rintro e1 w' ⟨rfl, rfl⟩
        go_wp2_with fail
        refine (IH.out (p + 1) _ (by omega) (by omega)).mono ?_
        cases ho : pf n k (e.data.toList.drop (p + 1)) with
        | none =>
          have HO := Lib.hid ho
          clear ho
          rw [show endV e.size none = -1 from rfl]
          rintro e2 w2 ⟨rfl, rfl⟩
          go_wp2_with fail
          refine (l2End_neg e n _).mono ?_
          rintro e3 w3 ⟨rfl, rfl⟩
          go_wp2_with fail
          go_ret
          exact ⟨ret_int (by rw [HP.out, HO.out]; rfl), rfl⟩
        | some am =>
          obtain ⟨a, m⟩ := am
          have HO := Lib.hid ho
          have hsuf := (pf_suffix n k _ _ _ ho).trans (List.drop_suffix (p + 1) e.data.toList)
          have hm1 := pf_len n k _ _ _ ho
          rw [HD1.out] at hm1
          have HM := Lib.hid (show e.data.toList.drop (e.size - m.length) = m from (List.suffix_iff_eq_drop.1 hsuf).symm)
          rw [show endV e.size (some (a, m)) = ((e.size - m.length : Nat) : Int) from rfl]
          obtain ⟨p2, hp2⟩ : ∃ p2, p2 = e.size - m.length := ⟨_, rfl⟩
          rw [← hp2] at HM ⊢
          have hp3 : p2 ≤ e.size := by omega
          have hp4 : e.size ≤ p2 + k := by omega
          clear ho hsuf hm1 hp2
          rintro e2 w2 ⟨rfl, rfl⟩
          go_wp2_with fail
          refine (IH.out p2 _ hp3 hp4).mono ?_
          rw [HM.out]
          rintro e3 w3 ⟨rfl, rfl⟩
          go_wp2_with fail
          go_ret
          refine ⟨ret_int ?_, rfl⟩
          rw [HP.out, HO.out]
          simp only []
          cases pf n k m with
          | none => rfl
          | some x => rfl
    have HP := Lib.hid (pf_no n k c (e.data.toList.drop (p + 1)) HD.out hi h33 h3)
    have HFI := Lib.hid (show findB (⟨#[38, 124, 94]⟩ : ByteArray).data.toList c = -1 by
      refine findB_no _ _ ?_
      intro x hx he
      subst he
      apply h3
      simpa using hx)
    clear hi h3 h33
    rcases q5 with q5 | ⟨q5, q6⟩
    all_goals
      go_enter Try.func31, Try.ntmps31
      go_wp2_with fail
      refine (l14Find _ _ c rfl _ (by decide)).mono ?_
      rw [HFI.out]
      rintro e1 w' ⟨rfl, rfl⟩
      go_wp2_with fail
      go_ret
      exact ⟨ret_int (by rw [HP.out]; rfl), rfl⟩

theorem formulaValidS (e : ByteArray) (n : Int) (w : World) (he : e.size ≤ maxLen) :
    Calls Try.prog 13 #[.string e, .int .i64 n] w fun e' w' => e' = .returned (.bool (fmOk e.data.toList n)) ∧ w = w' := by
  unfold maxLen at he
  by_cases hok : 1 ≤ n ∧ n ≤ 5
  · obtain ⟨n, rfl⟩ := Int.eq_ofNat_of_zero_le (show 0 ≤ n by omega)
    have h1 : 1 ≤ n := by omega
    have h5 : n ≤ 5 := by omega
    have HIN := Lib.hid (show (decide ((1 : Int) ≤ (n : Int)) && decide ((n : Int) ≤ 5)) = true by simp; omega)
    clear hok
    by_cases h100 : 100 < e.size
    · have H := Lib.hid (fmOk_long e.data.toList (n : Int) h100)
      have d1 : decide ((e.size : Int) ≤ 100) = false := by simp; omega
      go_enter Try.func13, Try.ntmps13
      go_wp2_with fail
      refine (l1In _ _ _ _).mono ?_
      rw [HIN.out]
      rintro e1 w' ⟨rfl, rfl⟩
      go_wp2_with fail
      go_ret
      exact ⟨ret_bool H.out.symm, rfl⟩
    have h100' : e.size ≤ 100 := by omega
    have HF := Lib.hid (fmOk_in e.data.toList n h100' h1 h5)
    have HQ := Lib.hid (show (endV e.size (pf n 100 e.data.toList) == (e.size : Int)) = fmOk e.data.toList (n : Int) by
      rw [HF.out]
      cases ho : pf n 100 e.data.toList with
      | none => simp [endV]
      | some am =>
        obtain ⟨a, m⟩ := am
        have hm := pf_len n 100 _ _ _ ho
        have hl : e.data.toList.length = e.size := rfl
        rcases m with _ | ⟨c, r⟩
        · simp [endV]
        · simp only [endV, List.length_cons] at hm ⊢
          rw [beq_eq_false_iff_ne]; omega)
    go_enter Try.func13, Try.ntmps13
    go_wp2_with fail
    refine (l1In _ _ _ _).mono ?_
    rw [HIN.out]
    rintro e1 w' ⟨rfl, rfl⟩
    go_wp2_with fail
    have key := l2EndS e n h5 h100' 100 0 w (Nat.zero_le _) (by omega)
    rw [List.drop_zero] at key
    refine key.mono ?_
    rintro e2 w2 ⟨rfl, rfl⟩
    clear key
    generalize endV e.size (pf n 100 e.data.toList) = E at *
    go_wp2_with fail
    go_ret
    exact ⟨ret_bool HQ.out, rfl⟩
  · have H := Lib.hid (show fmOk e.data.toList n = false by
      unfold fmOk
      rw [show (decide (1 ≤ n) && decide (n ≤ 5)) = false by simp; omega]; rfl)
    have HIN := Lib.hid (show (decide ((1 : Int) ≤ n) && decide (n ≤ 5)) = false by simp; omega)
    clear hok
    go_enter Try.func13, Try.ntmps13
    go_wp2_with fail
    refine (l1In _ _ _ _).mono ?_
    rw [HIN.out]
    rintro e1 w' ⟨rfl, rfl⟩
    go_wp2_with fail
    go_ret
    exact ⟨ret_bool H.out.symm, rfl⟩

end Go.Proofs.Ytdpojljcefglmaa
