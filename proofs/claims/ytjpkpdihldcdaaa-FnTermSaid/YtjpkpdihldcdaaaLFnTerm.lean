/-
  'laws.FnTerm' returns true for every input, and each argument reads behind the call as it read before. No conditions.
-/
import Derived.Test.YtjpkpdihldcdaaaRows
import Derived.Test.YtjpkpdihldcdaaaWx
import Derived.Test.YtjpkpdihldcdaaaPj
import Derived.Test.YtjpkpdihldcdaaaWd4
import Derived.Test.YtjpkpdihldcdaaaWk3
import Derived.Test.YtjpkpdihldcdaaaWk4
import Derived.Test.YtjpkpdihldcdaaaWn
import Derived.WalkKit
import Derived.ProofKit
import Derived.OpenShut
import Derived.ShutString
import Derived.ChangeOld
import Derived.Below
import Derived.SliceStrings
namespace Go.Proofs.Ytjpkpdihldcdaaa
set_option linter.unusedVariables false
set_option linter.unusedSimpArgs false
namespace fnTerm
open Go.ChangeShapes Go.WideShapes Go.ChangeAt Go.RowKit
open Go.ChangeMaps (open_string shut_string)
open Go.RowKit
set_option linter.unusedVariables false

theorem in_no (t u : List UInt8) (h : isTerm t t.length = false ∨ isTerm u u.length = false ∨ t.length ≠ u.length) : isInsideV t u = false := by
  unfold isInsideV
  cases h1 : isTerm t t.length
  · rfl
  · cases h2 : isTerm u t.length
    · rfl
    · exfalso
      obtain ⟨e, _⟩ := isTerm_len u _ h2
      rcases h with h | h | h
      · rw [h1] at h; cases h
      · rw [e, h2] at h; cases h
      · omega

theorem facts (U V : ByteArray) (ht : isTerm U.data.toList U.size = true) (hu : isTerm V.data.toList V.size = true) (hl : U.size = V.size) : ∃ (A B C : ByteArray) (I J : Bool),
    Hid (∀ w0, Co w0 40 #[.string U, .string V] (.bool I)) ∧ Hid (∀ w0, Co w0 43 #[.string U, .string V] (.bool I)) ∧
    Hid (∀ w0, Co w0 41 #[.string U] (.tuple #[.string A, .bool true])) ∧ Hid (∀ w0, Co w0 42 #[.string U] (.tuple #[.string A, .bool true])) ∧ Hid (∀ w0, Co w0 41 #[.string V] (.tuple #[.string B, .bool true])) ∧
    Hid (∀ w0, Co w0 44 #[.string U, .int .i64 (U.size : Int)] (.bool true)) ∧ Hid (∀ w0, Co w0 45 #[.string U, .int .i64 (U.size : Int)] (.bool true)) ∧
    Hid (∀ w0, Co w0 24 #[.string A, .string B] (.tuple #[.string C, .bool true])) ∧ Hid (∀ w0, Co w0 46 #[.string B, .string U] (.bool I)) ∧ Hid (∀ w0, Co w0 40 #[.string V, .string U] (.bool J)) ∧
    Hid (∀ s : Nat, s < A.size → ∀ w0, Co w0 17 #[.string A, .int .i64 (s : Int)] (.int .i64 ((hasV U.data.toList s : Nat) : Int))) ∧
    Hid (A.size = 2 ^ U.size) ∧ U.size ≤ 5 ∧ Hid (sumN (hasV U.data.toList) A.size = 2 ^ starN U.data.toList) ∧ Hid (I = true ↔ C = A) ∧ Hid (I = true → J = true → U = V) := by
  obtain ⟨_, h1, h5, htb⟩ := isTerm_len _ _ ht
  obtain ⟨_, _, _, hub⟩ := isTerm_len _ _ hu
  obtain ⟨n, hn⟩ : ∃ n, n = U.size := ⟨_, rfl⟩
  have hUl : U.data.toList.length = n := hn.symm
  have hVl : V.data.toList.length = n := (hn.trans hl).symm
  have h1' : 1 ≤ n := by omega
  have h5' : n ≤ 5 := by omega
  have fU : U.size ≤ maxLen := by unfold maxLen; omega
  have fV : V.size ≤ maxLen := by unfold maxLen; omega
  have hA : (⟨(termL U.data.toList).toArray⟩ : ByteArray) = T n (hasV U.data.toList) := by unfold termL T; rw [hUl]
  have hB : (⟨(termL V.data.toList).toArray⟩ : ByteArray) = T n (hasV V.data.toList) := by unfold termL T; rw [hVl]
  have tU : isTerm U.data.toList (n : Int) = true := by rw [hn]; exact ht
  have tV : isTerm V.data.toList (n : Int) = true := by rw [hn, hl]; exact hu
  have gU := hasV_le U.data.toList
  have gV := hasV_le V.data.toList
  have iUV : isInsideV U.data.toList V.data.toList = insideB U.data.toList V.data.toList := by unfold isInsideV; rw [hUl, tU, tV]; rfl
  have iVU : isInsideV V.data.toList U.data.toList = insideB V.data.toList U.data.toList := by unfold isInsideV; rw [hVl, tU, tV]; rfl
  have hin := inside_iff U.data.toList V.data.toList (hVl.trans hUl.symm) htb hub
  rw [hUl] at hin
  have himp : impV (T n (hasV V.data.toList)).data.toList U.data.toList = insideB U.data.toList V.data.toList := by
    unfold impV
    rw [isTab_T h1' h5' gV, lgN_T h1' h5', tU, len_T]
    apply bool_of_iff
    simp only [Bool.true_and, impB_iff, hin]
    constructor
    · intro h s hs hh
      have h2 := h s hs hh
      rw [tv_T gV s hs] at h2
      exact (hasV_one _ _).1 (by have := gV s; omega)
    · intro h s hs hh
      rw [tv_T gV s hs, (hasV_one _ _).2 (h s hs hh)]
      omega
  refine ⟨T n (hasV U.data.toList), T n (hasV V.data.toList), T n (fun s => hasV U.data.toList s * hasV V.data.toList s), insideB U.data.toList V.data.toList, insideB V.data.toList U.data.toList, ?_, ?_, ?_, ?_, ?_, ?_, ?_, ?_, ?_, ?_, ?_, ?_, ?_, ?_, ?_, ?_⟩
  · exact fun w0 => (co w0 fun w => isInsideI U V w fU fV).as (by rw [iUV])
  · exact fun w0 => (co w0 fun w => isInsideS U V w fU fV).as (by rw [iUV])
  · exact fun w0 => (co w0 fun w => termTableI U w fU).as (sb_eq ((strI_yes ht rfl).trans hA) ht)
  · exact fun w0 => (co w0 fun w => termTableS U w fU).as (sb_eq ((strI_yes ht rfl).trans hA) ht)
  · exact fun w0 => (co w0 fun w => termTableI V w fV).as (sb_eq ((strI_yes hu rfl).trans hB) hu)
  · exact fun w0 => (co0 w0 fun w => termValidI U U.size w fU).as (by rw [ht])
  · exact fun w0 => (co0 w0 fun w => termValidS U U.size w fU).as (by rw [ht])
  · exact fun w0 => tAndI w0 h1' h5' gU gV
  · exact fun w0 => (co w0 fun w => isImplicantI (T n (hasV V.data.toList)) U w (T_small n _ h5') fU).as (by rw [himp])
  · exact fun w0 => (co w0 fun w => isInsideI V U w fV fU).as (by rw [iVU])
  · intro s hs w0
    rw [T_size] at hs
    exact tValueI w0 h1' h5' gU s hs
  · show _ = _
    rw [T_size, hn]
  · omega
  · show _ = _
    rw [T_size, ← hUl]
    exact star_sum U.data.toList (by omega) htb
  · show _ ↔ _
    rw [hin, T_eq _ _ _ (fun s => Nat.mul_le_mul (gU s) (gV s)) gU]
    constructor
    · intro h s hs
      rcases b01 (gU s) with e | e
      · rw [e]; simp
      · rw [(hasV_one _ _).2 (h s hs ((hasV_one _ _).1 e))]; simp
    · intro h s hs hh
      have h2 := h s hs
      rw [(hasV_one _ _).2 hh] at h2
      exact (hasV_one _ _).1 (by omega)
  · intro hi hj
    have := inside_antisymm _ _ (hVl.trans hUl.symm) hi hj
    apply ByteArray.ext
    exact Array.toList_inj.1 this

theorem star_take (l : List UInt8) (k : Nat) (c : UInt8) (h : l[k]? = some c) : starN (l.take (k + 1)) = starN (l.take k) + if c = 42 then 1 else 0 := by
  unfold starN
  rw [List.take_add_one, h]
  simp only [Option.toList_some, List.filter_append, List.length_append]
  by_cases e : c = 42
  · simp [e]
  · simp [e]

set_option maxRecDepth 100000 in
set_option maxHeartbeats 4000000 in
theorem walk_FnTerm (A : Option Addr) (n c : Nat) (w : World) (h : ArgB w A n c) :
    Calls Try.prog 7 #[.slice A n c] w fun e w' => e = .returned (.bool true) ∧ Below w.heap.size w w' := by
  have hnm := Nat.le_trans h.1 h.2.1
  unfold maxLen at hnm
  by_cases hbig : 1048576 < n
  · go_enter Try.func7, Try.ntmps7
    go_wp2_with fail
    go_ret
    exact ⟨rfl, Below.refl _ _⟩
  go_enter Try.func7, Try.ntmps7
  go_wp2_with fail
  refine (drawIsInsideS A n c w h).mono ?_
  rintro e w1 ⟨U, V, hU, hV, rfl, hB⟩
  clear h
  have fU : U.size ≤ maxLen := by unfold maxLen; omega
  have fV : V.size ≤ maxLen := by unfold maxLen; omega
  cases ht : isTerm U.data.toList U.size
  · have hi := in_no U.data.toList V.data.toList (.inl ht)
    have c1 := Lib.hid ((co w fun w => isInsideI U V w fU fV).as (by rw [hi]))
    have c2 := Lib.hid ((co w fun w => isInsideS U V w fU fV).as (by rw [hi]))
    have c3 := Lib.hid ((co w fun w => termTableI U w fU).as (sb_eq (strI_no ht) ht))
    have c4 := Lib.hid ((co w fun w => termTableS U w fU).as (sb_eq (strI_no ht) ht))
    have c5 := Lib.hid (co w fun w => termTableI V w fV)
    have c6 := Lib.hid ((co0 w fun w => termValidI U U.size w fU).as (by rw [ht]))
    have c7 := Lib.hid ((co0 w fun w => termValidS U U.size w fU).as (by rw [ht]))
    clear hi ht
    generalize strI (isTerm V.data.toList (V.size : Int)) (termL V.data.toList) = BV at *
    generalize isTerm V.data.toList (V.size : Int) = bv at *
    go_wp2_with (first | (go_at_call 40; (with_reducible refine ((c1).out.at hB).mono ?_); rintro e w1 ⟨rfl, hB⟩) | (go_at_call 43; (with_reducible refine ((c2).out.at hB).mono ?_); rintro e w1 ⟨rfl, hB⟩) | (go_at_call 41; (with_reducible refine ((c3).out.at hB).mono ?_); rintro e w1 ⟨rfl, hB⟩) | (go_at_call 42; (with_reducible refine ((c4).out.at hB).mono ?_); rintro e w1 ⟨rfl, hB⟩) | (go_at_call 41; (with_reducible refine ((c5).out.at hB).mono ?_); rintro e w1 ⟨rfl, hB⟩) | (go_at_call 44; (with_reducible refine ((c6).out.at hB).mono ?_); rintro e w1 ⟨rfl, hB⟩) | (go_at_call 45; (with_reducible refine ((c7).out.at hB).mono ?_); rintro e w1 ⟨rfl, hB⟩) | fail)
    go_ret
    exact ⟨rfl, hB⟩
  cases hu : isTerm V.data.toList V.size
  · have hi := in_no U.data.toList V.data.toList (.inr (.inl hu))
    have c1 := Lib.hid ((co w fun w => isInsideI U V w fU fV).as (by rw [hi]))
    have c2 := Lib.hid ((co w fun w => isInsideS U V w fU fV).as (by rw [hi]))
    have c3 := Lib.hid ((co w fun w => termTableI U w fU).as (sb_eq (strI_yes ht rfl) ht))
    have c4 := Lib.hid ((co w fun w => termTableS U w fU).as (sb_eq (strI_yes ht rfl) ht))
    have c5 := Lib.hid (co w fun w => termTableI V w fV)
    have c6 := Lib.hid ((co0 w fun w => termValidI U U.size w fU).as (by rw [ht]))
    have c7 := Lib.hid ((co0 w fun w => termValidS U U.size w fU).as (by rw [ht]))
    rw [hu] at c5
    clear hi ht hu
    generalize (⟨(termL U.data.toList).toArray⟩ : ByteArray) = AA at *
    generalize strI false (termL V.data.toList) = BV at *
    go_wp2_with (first | (go_at_call 40; (with_reducible refine ((c1).out.at hB).mono ?_); rintro e w1 ⟨rfl, hB⟩) | (go_at_call 43; (with_reducible refine ((c2).out.at hB).mono ?_); rintro e w1 ⟨rfl, hB⟩) | (go_at_call 41; (with_reducible refine ((c3).out.at hB).mono ?_); rintro e w1 ⟨rfl, hB⟩) | (go_at_call 42; (with_reducible refine ((c4).out.at hB).mono ?_); rintro e w1 ⟨rfl, hB⟩) | (go_at_call 41; (with_reducible refine ((c5).out.at hB).mono ?_); rintro e w1 ⟨rfl, hB⟩) | (go_at_call 44; (with_reducible refine ((c6).out.at hB).mono ?_); rintro e w1 ⟨rfl, hB⟩) | (go_at_call 45; (with_reducible refine ((c7).out.at hB).mono ?_); rintro e w1 ⟨rfl, hB⟩) | fail)
    go_ret
    exact ⟨rfl, hB⟩
  by_cases hl : U.size = V.size
  · obtain ⟨A1, B1, C, I, J, c1, c2, c3, c4, c5, c6, c7, c8, c9, c10, c11, hA, h5, hsum, hI, hIJ⟩ := facts U V ht hu hl
    have hlU : (U.size != V.size) = false := by simp [hl]
    have hlV : ((U.size : Int) != (V.size : Int)) = false := by simp [hl]
    have h32 : A1.size ≤ 32 := by rw [hA.out]; exact pow_le32 U.size h5
    clear ht hu hl
    go_wp2_with (first | (go_at_call 40; (with_reducible refine (((c1).out _).at hB).mono ?_); rintro e w1 ⟨rfl, hB⟩) | (go_at_call 43; (with_reducible refine (((c2).out _).at hB).mono ?_); rintro e w1 ⟨rfl, hB⟩) | (go_at_call 41; (with_reducible refine (((c3).out _).at hB).mono ?_); rintro e w1 ⟨rfl, hB⟩) | (go_at_call 42; (with_reducible refine (((c4).out _).at hB).mono ?_); rintro e w1 ⟨rfl, hB⟩) | (go_at_call 41; (with_reducible refine (((c5).out _).at hB).mono ?_); rintro e w1 ⟨rfl, hB⟩) | (go_at_call 44; (with_reducible refine (((c6).out _).at hB).mono ?_); rintro e w1 ⟨rfl, hB⟩) | (go_at_call 45; (with_reducible refine (((c7).out _).at hB).mono ?_); rintro e w1 ⟨rfl, hB⟩) | fail)
    clear hlU hlV
    go_loopw [12, 14] (fun c j wr => ∃ (k st : Nat), k ≤ U.size ∧ j = .int .i64 k ∧ c = .int .i64 (st : Int) ∧ st ≤ k ∧ Hid (st = starN (U.data.toList.take k)) ∧ Below w.heap.size w wr) (fun _ j _ => U.size - (intOf j).toNat)
    case atStart => exact ⟨0, 0, Nat.zero_le _, rfl, rfl, Nat.le_refl _, rfl, hB⟩
    case round =>
      clear hB
      obtain ⟨k, st, hk, rfl, rfl, hst, hSt, hB⟩ := hrel
      by_cases hlt : k < U.size
      · have HR := Lib.hid (star_take U.data.toList k U[k] (List.getElem?_eq_getElem hlt))
        by_cases h42 : U[k] = 42
        · have z1 : ((U[k].toNat : Int) == 42) = true := by rw [h42]; rfl
          have H42 := Lib.hid h42
          clear h42
          go_wp2_with fail
          clear z1
          go_roundw
          case rel => exact ⟨k + 1, st + 1, by omega, by go_num, by go_num, by omega, by show _ = _; rw [HR.out, if_pos H42.out, hSt.out], hB⟩
          case measure => simp [intOf]; omega
        · have z1 : ((U[k].toNat : Int) == 42) = false := by
            have : U[k].toNat ≠ 42 := fun e => h42 (UInt8.toNat_inj.1 e)
            simp; omega
          have H42 := Lib.hid h42
          clear h42
          go_wp2_with fail
          clear z1
          go_roundw
          case rel => exact ⟨k + 1, st, by omega, by go_num, rfl, by omega, by show _ = _; rw [HR.out, if_neg H42.out, hSt.out]; rfl, hB⟩
          case measure => simp [intOf]; omega
      · obtain rfl : k = U.size := by omega
        have HSt : Hid (st = starN U.data.toList) := by show _ = _; rw [hSt.out, List.take_of_length_le (by exact Nat.le_refl _)]
        clear hSt
        go_wp2_with fail
        go_loopw [13, 15] (fun c j wr => ∃ s : Nat, s ≤ A1.size ∧ j = .int .i64 s ∧ c = .int .i64 ((sumN (hasV U.data.toList) s : Nat) : Int) ∧ Below w.heap.size w wr) (fun _ j _ => A1.size - (intOf j).toNat)
        case atStart => exact ⟨0, Nat.zero_le _, rfl, rfl, hB⟩
        case round =>
          clear hB
          obtain ⟨s, hs, rfl, rfl, hB⟩ := hrel
          have hTs := sumN_le (hasV U.data.toList) 1 s (hasV_le _)
          by_cases hlts : s < A1.size
          · have cs := Lib.hid (c11.out s hlts)
            have HR := Lib.hid (show sumN (hasV U.data.toList) (s + 1) = sumN (hasV U.data.toList) s + hasV U.data.toList s from rfl)
            have hle := hasV_le U.data.toList s
            generalize hasV U.data.toList s = p at *
            generalize sumN (hasV U.data.toList) s = q at *
            go_wp2_with (first | (go_at_call 17; (with_reducible refine (((cs).out _).at hB).mono ?_); rintro e w1 ⟨rfl, hB⟩) | fail)
            go_roundw
            case rel => exact ⟨s + 1, by omega, by go_num, by rw [HR.out]; go_num, hB⟩
            case measure => simp [intOf]; omega
          · obtain rfl : s = A1.size := by omega
            have hp := wrap_pow st (by omega)
            rw [hsum.out, ← HSt.out]
            have h2 := pow_le32 st (by omega)
            clear hTs
            generalize 2 ^ st = M at *
            cases I
            · have z1 : (C.toList == A1.toList) = false := str_ne fun e => by have := hI.out.2 e; cases this
              clear hI hIJ
              go_wp2_with (first | (go_at_call 24; (with_reducible refine (((c8).out _).at hB).mono ?_); rintro e w1 ⟨rfl, hB⟩) | (go_at_call 46; (with_reducible refine (((c9).out _).at hB).mono ?_); rintro e w1 ⟨rfl, hB⟩) | fail)
              go_ret
              exact ⟨rfl, hB⟩
            · obtain rfl : C = A1 := hI.out.1 rfl
              cases J
              · clear hI hIJ
                go_wp2_with (first | (go_at_call 24; (with_reducible refine (((c8).out _).at hB).mono ?_); rintro e w1 ⟨rfl, hB⟩) | (go_at_call 46; (with_reducible refine (((c9).out _).at hB).mono ?_); rintro e w1 ⟨rfl, hB⟩) | (go_at_call 40; (with_reducible refine (((c10).out _).at hB).mono ?_); rintro e w1 ⟨rfl, hB⟩) | fail)
                go_ret
                exact ⟨rfl, hB⟩
              · obtain rfl : U = V := hIJ.out rfl rfl
                clear hI hIJ
                go_wp2_with (first | (go_at_call 24; (with_reducible refine (((c8).out _).at hB).mono ?_); rintro e w1 ⟨rfl, hB⟩) | (go_at_call 46; (with_reducible refine (((c9).out _).at hB).mono ?_); rintro e w1 ⟨rfl, hB⟩) | (go_at_call 40; (with_reducible refine (((c10).out _).at hB).mono ?_); rintro e w1 ⟨rfl, hB⟩) | fail)
                go_ret
                exact ⟨rfl, hB⟩
  · have hi := in_no U.data.toList V.data.toList (.inr (.inr hl))
    have c1 := Lib.hid ((co w fun w => isInsideI U V w fU fV).as (by rw [hi]))
    have c2 := Lib.hid ((co w fun w => isInsideS U V w fU fV).as (by rw [hi]))
    have c3 := Lib.hid ((co w fun w => termTableI U w fU).as (sb_eq (strI_yes ht rfl) ht))
    have c4 := Lib.hid ((co w fun w => termTableS U w fU).as (sb_eq (strI_yes ht rfl) ht))
    have c5 := Lib.hid (co w fun w => termTableI V w fV)
    have c6 := Lib.hid ((co0 w fun w => termValidI U U.size w fU).as (by rw [ht]))
    have c7 := Lib.hid ((co0 w fun w => termValidS U U.size w fU).as (by rw [ht]))
    rw [hu] at c5
    have hlU : (U.size != V.size) = true := by simpa using hl
    have hlV : ((U.size : Int) != (V.size : Int)) = true := by simp; omega
    clear hi ht hu hl
    generalize (⟨(termL U.data.toList).toArray⟩ : ByteArray) = AA at *
    generalize strI true (termL V.data.toList) = BV at *
    go_wp2_with (first | (go_at_call 40; (with_reducible refine ((c1).out.at hB).mono ?_); rintro e w1 ⟨rfl, hB⟩) | (go_at_call 43; (with_reducible refine ((c2).out.at hB).mono ?_); rintro e w1 ⟨rfl, hB⟩) | (go_at_call 41; (with_reducible refine ((c3).out.at hB).mono ?_); rintro e w1 ⟨rfl, hB⟩) | (go_at_call 42; (with_reducible refine ((c4).out.at hB).mono ?_); rintro e w1 ⟨rfl, hB⟩) | (go_at_call 41; (with_reducible refine ((c5).out.at hB).mono ?_); rintro e w1 ⟨rfl, hB⟩) | (go_at_call 44; (with_reducible refine ((c6).out.at hB).mono ?_); rintro e w1 ⟨rfl, hB⟩) | (go_at_call 45; (with_reducible refine ((c7).out.at hB).mono ?_); rintro e w1 ⟨rfl, hB⟩) | fail)
    go_ret
    exact ⟨rfl, hB⟩


theorem own : ownKnob Try.prog.godebug = none := by kernel_rfl
theorem laidOut : laidOutB Try.prog = true := by kernel_rfl

set_option maxRecDepth 100000 in
theorem lifted (os : Os) (started : os.Started) (H : Type) (enc : TypeId × Value → H) :
    ReturnsInHanded {} Try.checked os 7 .any (Rows.fnTermSpec.pre6 enc Try.prog Try.f7 Rows.fnTermRow.domain false) (Rows.fnTermSpec.post enc Try.prog Try.f7 false true false false) := by
  refine returnsInHanded_of_change (C := Try.checked) own started (by kernel_rfl) Try.func7
    (ChangeSpec.witness6 (enc := enc) (C := Try.checked) false ⟨#[], #[.slice none 0 0], []⟩ 8 (by kernel_rfl) (by kernel_rfl) (by kernel_rfl) (by kernel_rfl)) ?_
  intro W base args ds gs before hval0 hW hcnd _
  have hval : ∀ (j : Nat) t v, Try.f7.params[j]? = some t → args[j]? = some v → Value.okWide Try.prog W .any base t v := hval0
  have hW' := hW
  obtain ⟨p, q, hA0, hV, rfl, hfz, hnd⟩ := hW
  have hA : DataW.TrodAll enc Try.prog W 0 (fun _ => true) true Try.f7.params.toList args.toList ds p := hA0
  rw [Try.params7] at hA hval
  obtain ⟨v0, vs0, d0, ds0, p0, q0, hargs, rfl, rfl, h0, r0⟩ := trodAll_cons hA
  obtain ⟨rfl, rfl, rfl⟩ := trodAll_nil r0
  obtain rfl : args = #[v0] := by cases args; simp_all
  obtain ⟨rfl, rfl⟩ := trodVars_none hV
  obtain ⟨a0, len0, cap0, rfl⟩ := okWide_slice Try.underlying22 (hval 0 22 v0 rfl rfl)
  have k0 := h0
  have lt0 : ∀ x ∈ p0, x.block < W.heap.size := by obtain ⟨m, hm⟩ := k0; exact DataW.trod_lt m _ _ _ hm
  have w0 : ArgB W a0 len0 cap0 := by
    obtain ⟨fuel, hf⟩ := h0
    rcases open_ints Try.underlying22 Try.underlying5 (by kernel_rfl) hf with ⟨hcs, _⟩ | ⟨x, l, c, zs, hcs, _, hl, hm, hz, _, hcell, hwz⟩
    · simp [Value.cells] at hcs
      obtain ⟨rfl, rfl, rfl⟩ := hcs
      exact ⟨Nat.le_refl _, Nat.zero_le _, fun h => absurd rfl h⟩
    · simp [Value.cells] at hcs
      obtain ⟨rfl, rfl, rfl⟩ := hcs
      exact argB_of W _ _ _ zs hl hm (by simpa using hz) hcell hwz
  clear hA0 hval0
  refine (walk_FnTerm a0 len0 cap0 W w0).mono fun e W' ⟨he, bel⟩ => ?_
  subst he
  exact ⟨_, rfl, _, _, _, [], _, [], hW', trodAll_mk1 (shut_bool Try.underlying4 _), (trodAll_cons_mk (Below.trod laidOut (by kernel_rfl) (of_decide_eq_true (by kernel_rfl)) k0 bel lt0) trodAll_mk0), rfl, bel.frame _, fun h => by cases h⟩

theorem over : Rows.fnTermRow.holds Try.pinned (OpenSpec.ofChange Rows.fnTermSpec) :=
  OpenClaim.holds_of_wide 7 Try.f7 rfl rfl rfl rfl rfl rfl rfl ⟨rfl, rfl, rfl, rfl, rfl⟩ rfl rfl rfl rfl rfl (by kernel_rfl) Try.func7 (by kernel_rfl)
    (of_decide_eq_true (by kernel_rfl)) (by unfold Func.isWrapper; first | (rw [if_pos (by decide +kernel)]; kernel_rfl) | (rw [if_neg (by decide +kernel)]; exact ⟨rfl, rfl⟩))
    (fun os started H enc _ => lifted os started H enc)
end fnTerm

theorem fnTerm_holds : Rows.FnTermSaid := fnTerm.over
#print axioms fnTerm_holds
end Go.Proofs.Ytjpkpdihldcdaaa
