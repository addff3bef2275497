/- Walks: a term lies within another one. -/
import Derived.Test.YtnplaiolencgjaaWa
import Derived.Deep.QuietTactic
import Derived.BigQuiet
namespace Go.Proofs.Ytnplaiolencgjaa
set_option linter.unusedVariables false
set_option linter.unusedSimpArgs false
open Go.RowKit

theorem insideI (t u : ByteArray) (w : World) (ht : t.size ≤ 5) (hu : u.size = t.size) :
    Calls Try.prog 24 #[.string t, .string u] w fun e w' => e = .returned (.bool (insideB t.data.toList u.data.toList)) ∧ Below w.heap.size w w' := by
  have HU := Lib.hid hu
  have hu5 : t.size ≤ u.size := by omega
  clear hu
  go_enter Try.func24, Try.ntmps24
  go_wp2_with fail
  go_loopw [5] (fun i wr => ∃ k : Nat, k ≤ t.size ∧ i = .int .i64 k ∧ Hid (∀ j, j < k → u.data.toList.getD j 0 = 42 ∨ u.data.toList.getD j 0 = t.data.toList.getD j 0) ∧ Hid (∃ n, wr = w.drewN n)) (fun i _ => t.size - (intOf i).toNat)
  case atStart => exact ⟨0, Nat.zero_le _, rfl, fun j hj => absurd hj (by omega), ⟨0, rfl⟩⟩
  case round =>
    obtain ⟨k, hk, rfl, hj, hW⟩ := hrel
    by_cases hlt : k < t.size
    · have hlu : k < u.size := by omega
      have b1 := getD_byte t k hlt
      have b2 := getD_byte u k hlu
      by_cases h42 : u[k] = 42
      · have h1 : ((u[k].toNat : Int) != 42) = false := by rw [show (42 : Int) = ((42 : Nat) : Int) from rfl, u8_ne_lit _ _ (by omega)]; simp [h42]
        have HJ : Hid (u.data.toList.getD k 0 = 42 ∨ u.data.toList.getD k 0 = t.data.toList.getD k 0) := .inl (b2.trans h42)
        clear b1 b2 h42
        go_wp2_with fail
        go_quiet (fail)
        go_wp2_with fail
        go_roundw
        case rel =>
          refine ⟨k + 1, by omega, by go_num, fun j hjk => ?_, ?_⟩
          · rcases Nat.lt_or_ge j k with h | h
            · exact hj.out j h
            · obtain rfl : j = k := by omega
              exact HJ.out
          · obtain ⟨n, rfl⟩ := hW.out
            exact ⟨n + nq, by rw [World.drewN_drewN]⟩
        case measure => simp [intOf]; omega
      · have h1 : ((u[k].toNat : Int) != 42) = true := by rw [show (42 : Int) = ((42 : Nat) : Int) from rfl, u8_ne_lit _ _ (by omega)]; simpa using h42
        by_cases heq : u[k] = t[k]
        · have h2 : ((t[k].toNat : Int) != (u[k].toNat : Int)) = false := by rw [u8_ne]; simp [heq]
          have HJ : Hid (u.data.toList.getD k 0 = 42 ∨ u.data.toList.getD k 0 = t.data.toList.getD k 0) := .inr (b2.trans (heq.trans b1.symm))
          clear b1 b2 h42 heq
          go_wp2_with fail
          go_quiet (fail)
          go_wp2_with fail
          go_roundw
          case rel =>
            refine ⟨k + 1, by omega, by go_num, fun j hjk => ?_, ?_⟩
            · rcases Nat.lt_or_ge j k with h | h
              · exact hj.out j h
              · obtain rfl : j = k := by omega
                exact HJ.out
            · obtain ⟨n, rfl⟩ := hW.out
              exact ⟨n + nq, by rw [World.drewN_drewN]⟩
          case measure => simp [intOf]; omega
        · have h2 : ((t[k].toNat : Int) != (u[k].toNat : Int)) = true := by rw [u8_ne]; simpa using fun e => heq e.symm
          have HF := Lib.hid (insideB_false t.data.toList u.data.toList k hlt (by rw [b2]; exact h42) (by rw [b2, b1]; exact heq))
          clear b1 b2 h42 heq
          go_wp2_with fail
          go_quiet (fail)
          go_wp2_with fail
          go_ret
          refine ⟨ret_bool HF.out.symm, ?_⟩
          obtain ⟨n, rfl⟩ := hW.out
          exact ⟨rfl, rfl, rfl, Nat.le_refl _, fun _ _ => rfl⟩
    · go_wp2_with fail
      go_ret
      refine ⟨ret_bool (insideB_true _ _ (fun i hi => hj.out i (by have : i < t.size := hi; omega))).symm, ?_⟩
      obtain ⟨n, rfl⟩ := hW.out
      exact ⟨rfl, rfl, rfl, Nat.le_refl _, fun _ _ => rfl⟩

theorem isInsideI (t u : ByteArray) (w : World) (ht : t.size ≤ maxLen) (hu : u.size ≤ maxLen) :
    Calls Try.prog 10 #[.string t, .string u] w fun e w' => e = .returned (.bool (isInsideV t.data.toList u.data.toList)) ∧ Below w.heap.size w w' := by
  cases h1 : isTerm t.data.toList t.size
  · have H := Lib.hid (show isInsideV t.data.toList u.data.toList = false by unfold isInsideV; rw [show isTerm t.data.toList t.data.toList.length = false from h1]; rfl)
    go_enter Try.func10, Try.ntmps10
    go_wp2_with fail
    refine (termValidI _ _ _ ht).mono ?_
    rw [h1]
    rintro e w' ⟨rfl, rfl⟩
    go_wp2_with fail
    go_ret
    exact ⟨ret_bool H.out.symm, Below.refl _ _⟩
  cases h2 : isTerm u.data.toList t.size
  · have H := Lib.hid (show isInsideV t.data.toList u.data.toList = false by unfold isInsideV; rw [show isTerm u.data.toList t.data.toList.length = false from h2]; simp)
    go_enter Try.func10, Try.ntmps10
    go_wp2_with fail
    refine (termValidI _ _ _ ht).mono ?_
    rw [h1]
    rintro e w' ⟨rfl, rfl⟩
    go_wp2_with fail
    refine (termValidI _ _ _ hu).mono ?_
    rw [h2]
    rintro e w' ⟨rfl, rfl⟩
    go_wp2_with fail
    go_ret
    exact ⟨ret_bool H.out.symm, Below.refl _ _⟩
  · have H := Lib.hid (show isInsideV t.data.toList u.data.toList = insideB t.data.toList u.data.toList by unfold isInsideV; rw [show isTerm t.data.toList t.data.toList.length = true from h1, show isTerm u.data.toList t.data.toList.length = true from h2]; simp)
    have l1 := isTerm_len _ _ h1
    have l2 := isTerm_len _ _ h2
    have ht5 : t.size ≤ 5 := by omega
    have HU := Lib.hid (show u.size = t.size from Int.ofNat.inj l2.1)
    clear l1 l2
    go_enter Try.func10, Try.ntmps10
    go_wp2_with fail
    refine (termValidI _ _ _ ht).mono ?_
    rw [h1]
    rintro e w' ⟨rfl, rfl⟩
    go_wp2_with fail
    refine (termValidI _ _ _ hu).mono ?_
    rw [h2]
    rintro e w' ⟨rfl, rfl⟩
    go_wp2_with fail
    refine (insideI t u _ ht5 HU.out).mono ?_
    rintro e w1 ⟨rfl, hb1⟩
    go_wp2_with fail
    go_ret
    exact ⟨ret_bool H.out.symm, hb1⟩

end Go.Proofs.Ytnplaiolencgjaa
