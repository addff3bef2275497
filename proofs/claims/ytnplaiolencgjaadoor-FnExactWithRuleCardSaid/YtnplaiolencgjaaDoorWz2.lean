/- Walks: a network opened, the reference. -/
import Derived.Test.YtnplaiolencgjaaDoorWz1
import Derived.Test.YtnplaiolencgjaaDoorWs
namespace Go.Proofs.YtnplaiolencgjaaDoor
set_option linter.unusedVariables false
set_option linter.unusedSimpArgs false
open Go.RowKit

/-- A table of n inputs. -/
def tabN (n : Nat) (t : List UInt8) : Bool := isTab t && decide (lgN t.length = n)
/-- The texts are a network. -/
def wOk (ts : List (List UInt8)) : Bool := ts.all (tabN ts.length)
theorem tabN_pos (n : Nat) (t : List UInt8) (h : tabN n t = true) : isTab t = true ∧ lgN t.length = n := by
  unfold tabN at h; simpa using h
theorem tabN_bad (n : Nat) (t : List UInt8) (h : isTab t = false) : tabN n t = false := by unfold tabN; rw [h]; rfl
theorem tabN_is (n : Nat) (t : List UInt8) (h : isTab t = true) : tabN n t = decide (lgN t.length = n) := by unfold tabN; rw [h]; rfl
theorem all_no (ts : List (List UInt8)) (p : List UInt8 → Bool) (k : Nat) (t : List UInt8) (h : ts[k]? = some t) (hp : p t = false) : ts.all p = false := by
  cases e : ts.all p with
  | false => rfl
  | true => have := List.all_eq_true.1 e t (List.mem_of_getElem? h); rw [hp] at this; cases this
theorem all_take1 (ts : List (List UInt8)) (p : List UInt8 → Bool) (k : Nat) (t : List UInt8) (h : ts[k]? = some t) : (ts.take (k + 1)).all p = ((ts.take k).all p && p t) := by
  rw [List.take_add_one, h, List.all_append]; simp
def wTexts (ts : List (List UInt8)) : List (List UInt8) := if wOk ts then ts else []

theorem l3OpenS (s : ByteArray) (w : World) (hs : s.size ≤ 1048576) :
    Calls Tryd.prog 30 #[.string s] w fun e w' => ∃ v, e = .returned (.tuple #[v, .bool (wOk (cutG 44 [] s.data.toList))]) ∧ Res w' w.heap.size 9 v (textsV (wTexts (cutG 44 [] s.data.toList))) ∧ Below w.heap.size w w' := by
  have HC := Lib.hid (l14CutS s w hs)
  have hlen : (cutG 44 [] s.data.toList).length ≤ s.size + 1 := cutG_length_le 44 s.data.toList []
  have HPL := Lib.hid (fun p hp => cutG_piece_le 44 s.data.toList [] p hp)
  generalize cutG 44 [] s.data.toList = ts at *
  have HPS := Lib.hid (show ∀ p ∈ ts, p.length ≤ 1048576 from fun p hp => by have := HPL.out p hp; have e : s.data.toList.length = s.size := rfl; simp at this; omega)
  obtain ⟨n, hn⟩ : ∃ n, ts.length = n := ⟨_, rfl⟩
  have HOK := Lib.hid (show wOk ts = ts.all (tabN n) by rw [← hn]; rfl)
  have HN := Lib.hid hn
  rw [hn] at hlen
  clear hn HPL
  go_enter Tryd.func30, Tryd.ntmps30
  go_wp2_with fail
  refine HC.out.mono ?_
  rintro e w1 ⟨v, rfl, hr, hB⟩
  have HR := Lib.hid hr
  obtain ⟨A, c, rfl, k1, k2, ht⟩ := res_texts hr
  have HT := Lib.hid ht
  rw [HN.out] at k1 HR ⊢
  unfold maxLen at k2
  clear ht hr HC
  go_wp2_with fail
  go_loopw [5] (fun j wr => ∃ k : Nat, k ≤ n ∧ j = .int .i64 k ∧ Hid ((ts.take k).all (tabN n) = true) ∧ wr = w1) (fun j _ => n - (intOf j).toNat)
  case atStart => exact ⟨0, Nat.zero_le _, rfl, rfl, rfl⟩
  case round =>
    obtain ⟨k, hk, rfl, hall, rfl⟩ := hrel
    by_cases hlt : k < n
    · obtain ⟨t, ht⟩ : ∃ t, ts[k]? = some t := ⟨_, List.getElem?_eq_getElem (by rw [HN.out]; exact hlt)⟩
      obtain ⟨g, rfl, hg, hcell⟩ := HT.out k t ht
      obtain ⟨S, hS⟩ : ∃ S : ByteArray, S = ⟨t.toArray⟩ := ⟨_, rfl⟩
      rw [← hS] at hcell
      have hSz : S.size ≤ 1048576 := by rw [hS]; exact HPS.out t (List.mem_of_getElem? ht)
      have HSL := Lib.hid (show S.data.toList = t by rw [hS])
      have HSS := Lib.hid (show S.size = t.length by rw [hS]; rfl)
      have HKT := Lib.hid ht
      clear hS ht
      have TV := Lib.hid (fun w => tableValidS S w (by unfold maxLen; omega))
      have IN := Lib.hid (fun w => l1InputsS S.size w (by unfold maxLen; omega))
      rw [HSL.out] at TV
      rcases Bool.eq_false_or_eq_true (isTab t) with hi | hi
      · rw [hi] at TV
        obtain ⟨m, hm⟩ : ∃ m, lgN t.length = m := ⟨_, rfl⟩
        have hm1 : 0 < m := by rw [← hm]; exact (isTab_pos t hi).1
        have hm5 : m ≤ 5 := by rw [← hm]; exact (lgN_pos _ (isTab_pos t hi).1).2.1
        have hin : inpN S.size = (m : Int) := by rw [HSS.out]; unfold inpN; rw [hm, if_neg (by omega)]
        rw [hin] at IN
        have HTN := Lib.hid (show tabN n t = decide (m = n) by rw [tabN_is n t hi, hm])
        clear hin hm hi
        by_cases hmn : m = n
        · have HA := Lib.hid (show (ts.take (k + 1)).all (tabN n) = true by rw [all_take1 ts _ k t HKT.out, hall.out, HTN.out, hmn]; simp)
          have hne : ((m : Int) != (n : Int)) = false := by rw [hmn]; simp
          clear hmn hall
          go_wp2_with (first | (go_at_call 32; (with_reducible refine (TV.out _).mono ?_); rintro e w3 ⟨rfl, rfl⟩) | (go_at_call 47; (with_reducible refine (IN.out _).mono ?_); rintro e w3 ⟨rfl, rfl⟩) | fail)
          go_roundw
          case rel => exact ⟨k + 1, by omega, by go_num, HA, trivial⟩
          case measure => simp [intOf]; omega
        · have HF := Lib.hid (show wOk ts = false by rw [HOK.out]; exact all_no ts _ k t HKT.out (by rw [HTN.out]; simpa using hmn))
          have hne : ((m : Int) != (n : Int)) = true := by rw [bne_iff_ne]; omega
          clear hmn hall
          go_wp2_with (first | ((with_reducible refine wpList_empty 36 9 (.string ⟨#[]⟩) 16 Tryd.underlying36 infoS ?_); intro w1 hown1 hg1 hz1; (try simp only [Act.put, List.setIfInBounds_toArray, List.set_cons_succ, List.set_cons_zero, World.size_alloc, Nat.add_assoc, Nat.reduceAdd])) | (go_at_call 32; (with_reducible refine (TV.out _).mono ?_); rintro e w3 ⟨rfl, rfl⟩) | (go_at_call 47; (with_reducible refine (IN.out _).mono ?_); rintro e w3 ⟨rfl, rfl⟩) | fail)
          go_ret2
          refine ⟨.slice (some ⟨wr.heap.size, 0, none⟩) 0 0, by rw [HF.out]; rfl, ?_, below_grown hB ((Below.refl _ _).grown hg1 (Nat.le_refl _) (fun k hk => by cases hk)) hB.size⟩
          unfold wTexts; rw [HF.out]
          exact (Res.of_own hown1).mono hB.size
      · rw [hi] at TV
        have HF := Lib.hid (show wOk ts = false by rw [HOK.out]; exact all_no ts _ k t HKT.out (tabN_bad n t hi))
        clear hi hall
        go_wp2_with (first | ((with_reducible refine wpList_empty 36 9 (.string ⟨#[]⟩) 16 Tryd.underlying36 infoS ?_); intro w1 hown1 hg1 hz1; (try simp only [Act.put, List.setIfInBounds_toArray, List.set_cons_succ, List.set_cons_zero, World.size_alloc, Nat.add_assoc, Nat.reduceAdd])) | (go_at_call 32; (with_reducible refine (TV.out _).mono ?_); rintro e w3 ⟨rfl, rfl⟩) | fail)
        go_ret2
        refine ⟨.slice (some ⟨wr.heap.size, 0, none⟩) 0 0, by rw [HF.out]; rfl, ?_, below_grown hB ((Below.refl _ _).grown hg1 (Nat.le_refl _) (fun k hk => by cases hk)) hB.size⟩
        unfold wTexts; rw [HF.out]
        exact (Res.of_own hown1).mono hB.size
    · obtain rfl : k = n := by omega
      have HF := Lib.hid (show wOk ts = true by
        have := hall.out
        rw [List.take_of_length_le (by rw [HN.out]; exact Nat.le_refl _)] at this
        rw [HOK.out]; exact this)
      go_wp2_with fail
      go_ret2
      exact ⟨.slice A k c, by rw [HF.out]; rfl, by unfold wTexts; rw [HF.out]; exact HR.out, hB⟩

end Go.Proofs.YtnplaiolencgjaaDoor
