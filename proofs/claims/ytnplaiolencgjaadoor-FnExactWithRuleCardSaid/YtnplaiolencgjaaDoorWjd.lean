/- Walks: texts are joined (door seat). -/
import Derived.Test.YtnplaiolencgjaaDoorWsD
import Derived.Test.YtnplaiolencgjaaDoorWz9
import Derived.Test.YtnplaiolencgjaaDoorWq
import Derived.Test.YtnplaiolencgjaaDoorWp
import Derived.Lib.Join
namespace Go.Proofs.YtnplaiolencgjaaDoor
set_option linter.unusedVariables false
set_option linter.unusedSimpArgs false
open Go.RowKit

/-- Texts with a comma between them. -/
def joinL (xs : List (List UInt8)) : List UInt8 := Lib.join xs [44]
theorem joinL_zero (xs : List (List UInt8)) : joinL (xs.take 0) = [] := rfl
theorem joinL_step (xs : List (List UInt8)) (k : Nat) (y : List UInt8) (h : xs[k]? = some y) : joinL (xs.take (k + 1)) = joinL (xs.take k) ++ (if k = 0 then [] else [44]) ++ y := by
  unfold joinL
  rcases xs with _ | ⟨x, r⟩
  · cases h
  · rcases k with _ | k
    · simp at h
      subst h
      simp [Lib.join, List.intercalate]
    · have h' : r[k]? = some y := by simpa using h
      rw [List.take_succ_cons, List.take_succ_cons, Lib.join_cons, Lib.join_cons, Lib.joinTail_take_succ _ _ _ _ h']
      simp [List.append_assoc]
theorem joinL_len (xs : List (List UInt8)) (h : ∀ x ∈ xs, x.length ≤ 32) (k : Nat) (hk : k ≤ xs.length) : (joinL (xs.take k)).length ≤ 33 * k := by
  induction k with
  | zero => rw [joinL_zero]; simp
  | succ k ih =>
    have hkl : k < xs.length := by omega
    rw [joinL_step xs k xs[k] (List.getElem?_eq_getElem hkl)]
    have h1 := ih (by omega)
    have h2 := h _ (List.getElem_mem hkl)
    simp only [List.length_append]
    split
    · simp only [List.length_nil]; omega
    · simp only [List.length_cons, List.length_nil]; omega

theorem l3TextS (xs : List (List UInt8)) (v : Value) (w : World) (hl : xs.length ≤ 1000) (h32 : ∀ x ∈ xs, x.length ≤ 32) (hr : Row w v (textsV xs)) :
    Calls Tryd.prog 33 #[v] w fun e w' => e = .returned (.string ⟨(joinL xs).toArray⟩) ∧ w = w' := by
  obtain ⟨A, c, rfl, k1, k2, hc⟩ := hr
  rw [textsV_length] at k1 ⊢
  have HC := Lib.hid hc
  have H32 := Lib.hid h32
  obtain ⟨m, hm⟩ : ∃ m, xs.length = m := ⟨_, rfl⟩
  rw [hm] at k1 hl ⊢
  have HM := Lib.hid hm
  unfold maxLen at k2
  clear hc h32 hm
  go_enter Tryd.func33, Tryd.ntmps33
  go_wp2_with fail
  go_loop [3, 4] (fun o j => ∃ (k : Nat) (O : ByteArray), k ≤ m ∧ j = .int .i64 k ∧ o = .string O ∧ O.size ≤ 33 * k ∧ Hid (O.data.toList = joinL (xs.take k))) (fun _ j => m - (intOf j).toNat)
  case atStart => exact ⟨0, _, Nat.zero_le _, rfl, rfl, Nat.le_refl _, rfl⟩
  case round =>
    obtain ⟨k, O, hk, rfl, rfl, hO, hD⟩ := hrel
    by_cases hlt : k < m
    · obtain ⟨t, ht⟩ : ∃ t, xs[k]? = some t := ⟨_, List.getElem?_eq_getElem (by rw [HM.out]; exact hlt)⟩
      obtain ⟨b, off, rfl, hbl, hcells⟩ := HC.out (by intro e; have e2 := textsV_get _ _ _ ht; rw [e] at e2; cases e2)
      have hcell := hcells k _ (textsV_get _ _ _ ht)
      obtain ⟨S, hS⟩ : ∃ S : ByteArray, S = ⟨t.toArray⟩ := ⟨_, rfl⟩
      rw [← hS] at hcell
      have HSL := Lib.hid (show S.data.toList = t by rw [hS])
      have hSs : S.size ≤ 32 := by
        have := H32.out t (List.mem_of_getElem? ht)
        have e : S.data.toList.length = t.length := by rw [HSL.out]
        have e2 : S.data.toList.length = S.size := rfl
        omega
      have HST := Lib.hid (joinL_step xs k t ht)
      have HLE := Lib.hid (joinL_len xs H32.out (k + 1) (by rw [HM.out]; omega))
      clear hS ht hcells
      by_cases hk0 : k = 0
      · have z1 : ¬ ((0 : Int) < (k : Int)) := by omega
        have z2 : decide ((0 : Int) < (k : Int)) = false := decide_eq_false z1
        have z3 : decide (0 < k) = false := by simp; omega
        have HK := Lib.hid hk0
        clear hk0
        go_wp2_with fail
        clear z1 z2 z3
        go_round
        case rel =>
          have e : (O ++ S).data.toList = joinL (xs.take (k + 1)) := by rw [ByteArray.data_append, Array.toList_append, HST.out, if_pos HK.out, hD.out, HSL.out]; simp
          refine ⟨k + 1, _, by omega, by go_num, rfl, ?_, e⟩
          have : (O ++ S).data.toList.length ≤ 33 * (k + 1) := by rw [e]; exact HLE.out
          exact this
        case measure => simp [intOf]; omega
      · have z1 : (0 : Int) < (k : Int) := by omega
        have z3 : 0 < k := by omega
        have HK := Lib.hid hk0
        clear hk0
        go_wp2_with fail
        go_round
        case rel =>
          have e : (O ++ ⟨#[44]⟩ ++ S).data.toList = joinL (xs.take (k + 1)) := by rw [ByteArray.data_append, Array.toList_append, ByteArray.data_append, Array.toList_append, HST.out, if_neg HK.out, hD.out, HSL.out]
          refine ⟨k + 1, _, by omega, by go_num, rfl, ?_, e⟩
          have : (O ++ ⟨#[44]⟩ ++ S).data.toList.length ≤ 33 * (k + 1) := by rw [e]; exact HLE.out
          exact this
        case measure => simp [intOf]; omega
    · obtain rfl : k = m := by omega
      go_wp2_with fail
      go_ret
      refine ⟨ret_str ?_, rfl⟩
      rw [ba_list O, hD.out, List.take_of_length_le (by rw [HM.out]; exact Nat.le_refl _)]

theorem map_ba (xs : List (List UInt8)) : ((xs.map fun l => (⟨l.toArray⟩ : ByteArray)).map (·.data.toList)) = xs := by
  induction xs with
  | nil => rfl
  | cons x r ih => rw [List.map_cons, List.map_cons, ih]

theorem joinI (xs : List (List UInt8)) (g cap : Nat) (w : World) (hl : xs.length ≤ 1000) (h32 : ∀ x ∈ xs, x.length ≤ 32) (hc : xs.length ≤ cap) (hg : g < w.heap.size) (hcells : ∀ (j : Nat) x, xs[j]? = some x → w.cell? ⟨g, j, none⟩ = some (.string ⟨x.toArray⟩)) :
    Calls Tryd.prog 50 #[.slice (some ⟨g, 0, none⟩) xs.length cap, .string ⟨#[44]⟩] w fun e w' => e = .returned (.string ⟨(joinL xs).toArray⟩) ∧ Below w.heap.size w w' := by
  have hmap := map_ba xs
  have h := Tryd.strings_Join g 0 cap (xs.map fun l => (⟨l.toArray⟩ : ByteArray)) ⟨#[44]⟩ w ?_ hg ?_ ?_ ?_
  · rw [hmap, List.length_map] at h
    exact h
  · intro j x hx
    rw [List.getElem?_map, Option.map_eq_some_iff] at hx
    obtain ⟨l, hl', rfl⟩ := hx
    rw [Nat.zero_add]
    exact hcells j l hl'
  · rw [List.length_map]; omega
  · rw [List.length_map]; exact hc
  · rw [hmap]
    have := joinL_len xs h32 xs.length (Nat.le_refl _)
    rw [List.take_length] at this
    have e : (Lib.join xs (⟨#[44]⟩ : ByteArray).data.toList).length = (joinL xs).length := rfl
    rw [e]
    omega

end Go.Proofs.YtnplaiolencgjaaDoor
