/- Walks: texts are joined; the network of formulas. -/
import Derived.Test.YtdpojljcefglmaaWjR3
import Derived.Test.YtdpojljcefglmaaWg7
import Derived.Test.YtdpojljcefglmaaWq
import Derived.Test.YtdpojljcefglmaaWp
import Derived.Lib.Join
namespace Go.Proofs.Ytdpojljcefglmaa
set_option linter.unusedVariables false
set_option linter.unusedSimpArgs false
open Go.RowKit

/-- Texts with a comma between them. -/
def joinL (xs : List (List UInt8)) : List UInt8 := Lib.join xs [44]
theorem joinL_zero (xs : List (List UInt8)) : joinL (xs.take 0) = [] := rfl
theorem joinL_step (xs : List (List UInt8)) (k : Nat) (y : List UInt8) (h : xs[k]? = some y) : joinL (xs.take (k + 1)) = joinL (xs.take k) ++ (if k = 0 then [] else [44]) ++ y := by
  unfold joinL
  rcases xs with _ | ⟨x, r⟩
  · cases h
  · rcases k with _ | k
    · simp at h
      subst h
      simp [Lib.join, List.intercalate]
    · have h' : r[k]? = some y := by simpa using h
      rw [List.take_succ_cons, List.take_succ_cons, Lib.join_cons, Lib.join_cons, Lib.joinTail_take_succ _ _ _ _ h']
      simp [List.append_assoc]
theorem joinL_len (xs : List (List UInt8)) (h : ∀ x ∈ xs, x.length ≤ 32) (k : Nat) (hk : k ≤ xs.length) : (joinL (xs.take k)).length ≤ 33 * k := by
  induction k with
  | zero => rw [joinL_zero]; simp
  | succ k ih =>
    have hkl : k < xs.length := by omega
    rw [joinL_step xs k xs[k] (List.getElem?_eq_getElem hkl)]
    have h1 := ih (by omega)
    have h2 := h _ (List.getElem_mem hkl)
    simp only [List.length_append]
    split
    · simp only [List.length_nil]; omega
    · simp only [List.length_cons, List.length_nil]; omega

theorem l3TextS (xs : List (List UInt8)) (v : Value) (w : World) (hl : xs.length ≤ 1000) (h32 : ∀ x ∈ xs, x.length ≤ 32) (hr : Row w v (textsV xs)) :
    Calls Try.prog 41 #[v] w fun e w' => e = .returned (.string ⟨(joinL xs).toArray⟩) ∧ w = w' := by
  obtain ⟨A, c, rfl, k1, k2, hc⟩ := hr
  rw [textsV_length] at k1 ⊢
  have HC := Lib.hid hc
  have H32 := Lib.hid h32
  obtain ⟨m, hm⟩ : ∃ m, xs.length = m := ⟨_, rfl⟩
  rw [hm] at k1 hl ⊢
  have HM := Lib.hid hm
  unfold maxLen at k2
  clear hc h32 hm
  go_enter Try.func41, Try.ntmps41
  go_wp2_with fail
  go_loop [3, 4] (fun o j => ∃ (k : Nat) (O : ByteArray), k ≤ m ∧ j = .int .i64 k ∧ o = .string O ∧ O.size ≤ 33 * k ∧ Hid (O.data.toList = joinL (xs.take k))) (fun _ j => m - (intOf j).toNat)
  case atStart => exact ⟨0, _, Nat.zero_le _, rfl, rfl, Nat.le_refl _, rfl⟩
  case round =>
    obtain ⟨k, O, hk, rfl, rfl, hO, hD⟩ := hrel
    by_cases hlt : k < m
    · obtain ⟨t, ht⟩ : ∃ t, xs[k]? = some t := ⟨_, List.getElem?_eq_getElem (by rw [HM.out]; exact hlt)⟩
      obtain ⟨b, off, rfl, hbl, hcells⟩ := HC.out (by intro e; have e2 := textsV_get _ _ _ ht; rw [e] at e2; cases e2)
      have hcell := hcells k _ (textsV_get _ _ _ ht)
      obtain ⟨S, hS⟩ : ∃ S : ByteArray, S = ⟨t.toArray⟩ := ⟨_, rfl⟩
      rw [← hS] at hcell
      have HSL := Lib.hid (show S.data.toList = t by rw [hS])
      have hSs : S.size ≤ 32 := by
        have := H32.out t (List.mem_of_getElem? ht)
        have e : S.data.toList.length = t.length := by rw [HSL.out]
        have e2 : S.data.toList.length = S.size := rfl
        omega
      have HST := Lib.hid (joinL_step xs k t ht)
      have HLE := Lib.hid (joinL_len xs H32.out (k + 1) (by rw [HM.out]; omega))
      clear hS ht hcells
      by_cases hk0 : k = 0
      · have z1 : ¬ ((0 : Int) < (k : Int)) := by omega
        have z2 : decide ((0 : Int) < (k : Int)) = false := decide_eq_false z1
        have z3 : decide (0 < k) = false := by simp; omega
        have HK := Lib.hid hk0
        clear hk0
        go_wp2_with fail
        clear z1 z2 z3
        go_round
        case rel =>
          have e : (O ++ S).data.toList = joinL (xs.take (k + 1)) := by rw [ByteArray.data_append, Array.toList_append, HST.out, if_pos HK.out, hD.out, HSL.out]; simp
          refine ⟨k + 1, _, by omega, by go_num, rfl, ?_, e⟩
          have : (O ++ S).data.toList.length ≤ 33 * (k + 1) := by rw [e]; exact HLE.out
          exact this
        case measure => simp [intOf]; omega
      · have z1 : (0 : Int) < (k : Int) := by omega
        have z3 : 0 < k := by omega
        have HK := Lib.hid hk0
        clear hk0
        go_wp2_with fail
        go_round
        case rel =>
          have e : (O ++ ⟨#[44]⟩ ++ S).data.toList = joinL (xs.take (k + 1)) := by rw [ByteArray.data_append, Array.toList_append, ByteArray.data_append, Array.toList_append, HST.out, if_neg HK.out, hD.out, HSL.out]
          refine ⟨k + 1, _, by omega, by go_num, rfl, ?_, e⟩
          have : (O ++ ⟨#[44]⟩ ++ S).data.toList.length ≤ 33 * (k + 1) := by rw [e]; exact HLE.out
          exact this
        case measure => simp [intOf]; omega
    · obtain rfl : k = m := by omega
      go_wp2_with fail
      go_ret
      refine ⟨ret_str ?_, rfl⟩
      rw [ba_list O, hD.out, List.take_of_length_le (by rw [HM.out]; exact Nat.le_refl _)]

theorem map_ba (xs : List (List UInt8)) : ((xs.map fun l => (⟨l.toArray⟩ : ByteArray)).map (·.data.toList)) = xs := by
  induction xs with
  | nil => rfl
  | cons x r ih => rw [List.map_cons, List.map_cons, ih]

theorem joinI (xs : List (List UInt8)) (g cap : Nat) (w : World) (hl : xs.length ≤ 1000) (h32 : ∀ x ∈ xs, x.length ≤ 32) (hc : xs.length ≤ cap) (hg : g < w.heap.size) (hcells : ∀ (j : Nat) x, xs[j]? = some x → w.cell? ⟨g, j, none⟩ = some (.string ⟨x.toArray⟩)) :
    Calls Try.prog 42 #[.slice (some ⟨g, 0, none⟩) xs.length cap, .string ⟨#[44]⟩] w fun e w' => e = .returned (.string ⟨(joinL xs).toArray⟩) ∧ Below w.heap.size w w' := by
  have hmap := map_ba xs
  have h := Try.strings_Join g 0 cap (xs.map fun l => (⟨l.toArray⟩ : ByteArray)) ⟨#[44]⟩ w ?_ hg ?_ ?_ ?_
  · rw [hmap, List.length_map] at h
    exact h
  · intro j x hx
    rw [List.getElem?_map, Option.map_eq_some_iff] at hx
    obtain ⟨l, hl', rfl⟩ := hx
    rw [Nat.zero_add]
    exact hcells j l hl'
  · rw [List.length_map]; omega
  · rw [List.length_map]; exact hc
  · rw [hmap]
    have := joinL_len xs h32 xs.length (Nat.le_refl _)
    rw [List.take_length] at this
    have e : (Lib.join xs (⟨#[44]⟩ : ByteArray).data.toList).length = (joinL xs).length := rfl
    rw [e]
    omega

/-- The network of formulas. -/
def netOk (ts : List (List UInt8)) : Bool := decide (0 < ts.length) && ts.all (fun t => fmOk t (ts.length : Int))
def netT (ts : List (List UInt8)) : List (List UInt8) := ts.map (fun t => tofL t ts.length)
theorem netT_take (ts : List (List UInt8)) (k : Nat) : (netT ts).take k = (ts.take k).map (fun t => tofL t ts.length) := by unfold netT; rw [List.map_take]
theorem tofL_len (t : List UInt8) (n : Nat) (h5 : n ≤ 5) : (tofL t n).length ≤ 32 := by unfold tofL; rw [txt_length]; exact pow_le32 n h5
theorem netT_32 (ts : List (List UInt8)) (h5 : ts.length ≤ 5) : ∀ x ∈ netT ts, x.length ≤ 32 := by
  intro x hx
  obtain ⟨t, _, rfl⟩ := List.mem_map.1 hx
  exact tofL_len t _ h5
theorem all_takeJ (ts : List (List UInt8)) (p : List UInt8 → Bool) (k : Nat) (t : List UInt8) (h : ts[k]? = some t) : (ts.take (k + 1)).all p = ((ts.take k).all p && p t) := by
  rw [List.take_add_one, h]; simp
theorem all_noJ (ts : List (List UInt8)) (p : List UInt8 → Bool) (k : Nat) (t : List UInt8) (h : ts[k]? = some t) (hp : p t = false) : ts.all p = false := by
  rw [Bool.eq_false_iff]; intro hh
  have := List.all_eq_true.1 hh t (List.mem_of_getElem? h)
  rw [hp] at this; cases this
theorem netT_snoc (ts : List (List UInt8)) (k : Nat) (t : List UInt8) (h : ts[k]? = some t) : textsV ((netT ts).take (k + 1)) = textsV ((netT ts).take k) ++ [.string ⟨(tofL t ts.length).toArray⟩] := by
  rw [List.take_add_one, show (netT ts)[k]? = some (tofL t ts.length) by unfold netT; rw [List.getElem?_map, h]; rfl]
  simp [textsV]
theorem txt_ne (n : Nat) (g : Nat → Nat) : txt (2 ^ n) g ≠ [] := by
  intro h
  have : (txt (2 ^ n) g).length = 0 := by rw [h]; rfl
  rw [txt_length] at this
  have := Nat.two_pow_pos n
  omega
theorem join_ne (ts : List (List UInt8)) (h : 0 < ts.length) : joinL (netT ts) ≠ [] := by
  intro hh
  rcases ts with _ | ⟨t, r⟩
  · cases h
  · unfold joinL netT at hh
    rw [List.map_cons, Lib.join_cons] at hh
    have := List.append_eq_nil_iff.1 hh
    exact txt_ne _ _ this.1

set_option maxHeartbeats 1000000 in
theorem networkOfI (ts : List (List UInt8)) (v : Value) (w : World) (hl : ts.length ≤ 1048576) (hsz : ∀ t ∈ ts, t.length ≤ maxLen) (hr : Row w v (textsV ts)) :
    Calls Try.prog 22 #[v] w fun e w' => e = .returned (.tuple #[.string (strI (netOk ts) (joinL (netT ts))), .bool (netOk ts)]) ∧ Below w.heap.size w w' := by
  obtain ⟨A, c, rfl, k1, k2, hc⟩ := hr
  rw [textsV_length] at k1 ⊢
  have HC := Lib.hid hc
  have HSZ := Lib.hid hsz
  have HJ := Lib.hid (fun h5 => netT_32 ts h5)
  have HNT := Lib.hid (show (netT ts).length = ts.length by unfold netT; rw [List.length_map])
  have HNS := Lib.hid (netT_snoc ts)
  have HOK := Lib.hid (show netOk ts = (decide (0 < ts.length) && ts.all (fun t => fmOk t (ts.length : Int))) from rfl)
  obtain ⟨m, hm⟩ : ∃ m, ts.length = m := ⟨_, rfl⟩
  rw [hm] at k1 hl HJ HNT HNS HOK ⊢
  have HM := Lib.hid hm
  unfold maxLen at k2
  clear hc hsz hm
  generalize netT ts = X at *
  go_enter Try.func22, Try.ntmps22
  go_wp2_with fail
  go_loopw [4, 11] (fun v j wr => ∃ k : Nat, k ≤ m ∧ j = .int .i64 k ∧ (0 < k → m ≤ 5) ∧ Hid ((ts.take k).all (fun t => fmOk t (m : Int)) = true) ∧ wr.ownsRow w.heap.size 9 1 v k (textsV (X.take k)) ∧ Below w.heap.size w wr) (fun _ j _ => m - (intOf j).toNat)
  case atStart => exact ⟨0, Nat.zero_le _, rfl, (fun h => absurd h (by omega)), rfl, World.ownsRow_nil _ _ _ _, Below.refl _ _⟩
  case round =>
    obtain ⟨k, hk, rfl, hk5, hall, hown, hB⟩ := hrel
    by_cases hlt : k < m
    · obtain ⟨t, ht⟩ : ∃ t, ts[k]? = some t := ⟨_, List.getElem?_eq_getElem (by rw [HM.out]; exact hlt)⟩
      obtain ⟨b, off, rfl, hbl, hcells⟩ := HC.out (by intro e; have e2 := textsV_get _ _ _ ht; rw [e] at e2; cases e2)
      have hcell : wr.cell? ⟨b, off + k, none⟩ = some (.string ⟨t.toArray⟩) := (hB.cell (p := ⟨b, off + k, none⟩) hbl).trans (hcells k _ (textsV_get _ _ _ ht))
      obtain ⟨S, hS⟩ : ∃ S : ByteArray, S = ⟨t.toArray⟩ := ⟨_, rfl⟩
      rw [← hS] at hcell
      have HSL := Lib.hid (show S.data.toList = t by rw [hS])
      have HSS := Lib.hid (show S.size ≤ maxLen by rw [hS]; exact HSZ.out t (List.mem_of_getElem? ht))
      have HT := Lib.hid ht
      have HX := Lib.hid (HNS.out k t ht)
      clear hS ht hcells
      go_wp2_with fail
      refine (tableOfI S (m : Int) _ HSS.out).mono ?_
      rw [HSL.out, Int.toNat_natCast]
      rintro e w4 ⟨rfl, hb4⟩
      have hB4 := hB.trans (hb4.mono hB.size)
      have hown4 := own_below hown hb4
      have hsz4 := hB4.size
      clear hown hb4 hB
      cases hp : fmOk t (m : Int)
      · have HF := Lib.hid (show netOk ts = false by rw [HOK.out, all_noJ ts (fun t => fmOk t (m : Int)) k t HT.out hp]; simp)
        clear hp
        generalize strI false (tofL t m) = Y at *
        go_wp2_with fail
        go_ret2
        exact ⟨by rw [HF.out]; rfl, hB4⟩
      · have hm5 : m ≤ 5 := by have := (fmOk_range _ _ hp).2; omega
        have HA := Lib.hid (show (ts.take (k + 1)).all (fun t => fmOk t (m : Int)) = true by rw [all_takeJ ts _ k t HT.out, hall.out, hp]; rfl)
        rw [strI_true]
        clear hp hall hk5
        go_wp2_with (first | ((with_reducible refine wpList_push 22 9 _ _ (w.heap.size) (k) 16 (u4) (.string ⟨(tofL t m).toArray⟩) (.string ⟨#[]⟩) (_) Try.underlying22 infoS rfl rfl rfl ?_ ?_ ?_ (hown4) (hsz4) (by omega) (by decide) ?_); rfl; rfl; rfl; intro v2 w2 hown2 hg2 hat2 hbel2; (try simp only [Act.put, List.setIfInBounds_toArray, List.set_cons_succ, List.set_cons_zero, World.size_alloc, Nat.add_assoc, Nat.reduceAdd])) | fail)
        go_roundw
        case rel => exact ⟨k + 1, by omega, by go_num, (fun _ => hm5), HA, by rw [HX.out]; exact hown2, below_grown hB4 hbel2 (Nat.le_refl _)⟩
        case measure => simp [intOf]; omega
    · obtain rfl : k = m := by omega
      have hall2 : Hid (ts.all (fun t => fmOk t (k : Int)) = true) := by
        have := hall.out
        rw [List.take_of_length_le (by rw [HM.out]; exact Nat.le_refl _)] at this
        exact this
      rw [List.take_of_length_le (by rw [HNT.out]; exact Nat.le_refl _)] at hown
      by_cases hk0 : k = 0
      · have HF := Lib.hid (show netOk ts = false by rw [HOK.out, hk0]; rfl)
        have hv : ∃ A0 c0, u4 = .slice A0 k c0 := by
          rcases hown.2 with ⟨h, h2⟩ | ⟨g, cap, cur, h, _⟩
          · exact ⟨none, 0, by rw [h, h2]⟩
          · exact ⟨_, _, h⟩
        obtain ⟨A0, c0, rfl⟩ := hv
        have z1 : ((k : Int) == 0) = true := by rw [hk0]; rfl
        have z2 : (k == 0) = true := by rw [hk0]; rfl
        clear hk0 hall hall2 hown
        go_wp2_with fail
        go_ret2
        exact ⟨by rw [HF.out]; rfl, hB⟩
      · have HF := Lib.hid (show netOk ts = true by rw [HOK.out, hall2.out]; simp; omega)
        have hm5 := hk5 (by omega)
        obtain ⟨g, cap, cur, hv, hgb, hheap, hkc, hcm, hcs, htake⟩ : ∃ g cap cur, u4 = .slice (some ⟨g, 0, none⟩) k cap ∧ w.heap.size ≤ g ∧ wr.heap[g]? = some (.cells cur 9 (0, 0)) ∧ k ≤ cap ∧ cap ≤ maxLen ∧ cur.size = cap * 1 ∧ cur.toList.take (k * 1) = textsV X := by
          rcases hown.2 with ⟨_, h2⟩ | ⟨g, cap, cur, h⟩
          · omega
          · exact ⟨g, cap, cur, h⟩
        subst hv
        have hcell := Lib.hid (show ∀ (j : Nat) x, X[j]? = some x → wr.cell? ⟨g, j, none⟩ = some (.string ⟨x.toArray⟩) from fun j x hx => by
          have h1 := hown.cellAt j (by rw [Nat.mul_one, ← HNT.out]; exact (List.getElem?_eq_some_iff.1 hx).1)
          rw [h1]
          exact textsV_get X j x hx)
        have hgl : g < wr.heap.size := lt_of_block hheap
        have z1 : ((k : Int) == 0) = false := by simp; omega
        have z2 : (k == 0) = false := by simp; omega
        have JN := Lib.hid (joinI X g cap wr (by rw [HNT.out]; omega) (HJ.out hm5) (by rw [HNT.out]; exact hkc) hgl hcell.out)
        rw [HNT.out] at JN
        unfold maxLen at hcm
        clear hk0 hall hall2 hown hheap hcs htake
        go_wp2_with fail
        refine JN.out.mono ?_
        rintro e w9 ⟨rfl, hb9⟩
        go_wp2_with fail
        go_ret2
        exact ⟨by rw [HF.out]; rfl, hB.trans (hb9.mono hB.size)⟩

end Go.Proofs.Ytdpojljcefglmaa
