/- Walks: a list of texts that is handed in. -/
import Derived.Test.YtdpojljcefglmaaWms
import Derived.Test.YtdpojljcefglmaaWp
namespace Go.Proofs.Ytdpojljcefglmaa
set_option linter.unusedVariables false
set_option linter.unusedSimpArgs false
open Go.RowKit

section
variable {P : Program} {ops : Array Oper} {rest : List Oper} {a : Act} {w : World} {Q : Exit → Act → World → Prop}
/-- 'make([]T, m)', T of one cell. -/
theorem wpList_makeS {dst : Option Tmp} {ty0 : TypeId} {pos : String} {aft : Array Edge} (t e : TypeId) (z : Value) (b : Nat) (l c : Operand) (m : Nat) (hl : a.eval l = .int .i64 (m : Int)) (hc : a.eval c = .int .i64 (m : Int)) (ht : P.underlying t = some (.slice e))
    (hi : (P.info? e).map (fun i => (i.zero, i.size, i.bytes)) = some (some z, 1, b)) (hb : b ≤ 64) (hm : m ≤ 1048576)
    (h : ∀ cur : Array Value, cur.size = m → wpList P ops Q rest (a.put dst (.slice (some ⟨w.heap.size, 0, none⟩) m m)) (w.alloc (.cells cur e))) :
    wpList P ops Q (⟨dst, .makeSlice t l c, ty0, pos, aft, none⟩ :: rest) a w := by
  obtain ⟨i, hi, hz, h1, h2⟩ := info_parts hi
  refine wpList_plain rfl fun K hK => ?_
  have hmb : (b : Int) * (m : Int) ≤ 281474976710656 := by
    have : b * m ≤ 64 * 1048576 := Nat.mul_le_mul hb hm
    have h' : ((b * m : Nat) : Int) ≤ ((64 * 1048576 : Nat) : Int) := Int.ofNat_le.2 this
    rw [Int.natCast_mul] at h'
    omega
  have hr := run_make (P := P) w t e i z ht hi hz .i64 .i64 (m : Int) (m : Int) (by omega) (by omega) (by rw [h2]; exact hmb) (by omega)
  rw [Int.toNat_natCast, h1, Nat.mul_one] at hr
  unfold Oper.wp
  simp [execOp, hl, hc, hr, Result.andThen]
  exact hK _ _ (h _ (by simp [madeCells]))
end

/-- A list of texts as it is handed in: its cells may lie anywhere. -/
def Arg (w : World) (A : Option Addr) (n c : Nat) (ts : List (List UInt8)) : Prop :=
  ts.length = n ∧ n ≤ c ∧ c ≤ maxLen ∧ (∀ t ∈ ts, t.length ≤ maxLen) ∧ (ts ≠ [] → ∃ ad, A = some ad ∧ ad.block < w.heap.size ∧ ∀ k t, ts[k]? = some t → w.cell? (ad.add k) = some (.string ⟨t.toArray⟩))
theorem Arg.keep {w w' : World} {A : Option Addr} {n c : Nat} {ts : List (List UInt8)} (h : Arg w A n c ts) (hb : Below w.heap.size w w') : Arg w' A n c ts := by
  obtain ⟨h1, h2, h3, h4, h5⟩ := h
  refine ⟨h1, h2, h3, h4, fun hne => ?_⟩
  obtain ⟨ad, hA, hlt, hk⟩ := h5 hne
  exact ⟨ad, hA, Nat.lt_of_lt_of_le hlt hb.size, fun k t ht => (hb.cell (p := ad.add k) (block_lt_of_cell (hk k t ht))).trans (hk k t ht)⟩

theorem add_block (x : Addr) (k : Nat) : (x.add k).block = x.block := by unfold Addr.add; split <;> rfl
theorem arg_of (W : World) (x : Addr) (l c : Nat) (ss : List ByteArray) (hl : l ≤ c) (hm : c ≤ maxLen) (hz : ss.length = c) (hcell : ∀ i, i < ss.length → W.cell? (x.add i) = some (.string (ss.getD i ByteArray.empty))) (hwz : ∀ s ∈ ss, s.size ≤ maxLen) :
    Arg W (some x) l c ((ss.take l).map (·.data.toList)) := by
  have key : ∀ k t, ((ss.take l).map (·.data.toList))[k]? = some t → W.cell? (x.add k) = some (.string ⟨t.toArray⟩) := by
    intro k t ht
    rw [List.getElem?_map] at ht
    have hk : k < l := by
      rcases Nat.lt_or_ge k l with h | h
      · exact h
      · rw [List.getElem?_eq_none (by rw [List.length_take]; omega)] at ht; cases ht
    rw [List.getElem?_take_of_lt hk, List.getElem?_eq_getElem (by omega)] at ht
    injection ht with ht
    subst ht
    rw [hcell k (by omega), List.getD_eq_getElem?_getD, List.getElem?_eq_getElem (by omega)]
    rfl
  refine ⟨by rw [List.length_map, List.length_take]; omega, hl, hm, ?_, fun hne => ⟨x, rfl, ?_, key⟩⟩
  · intro t ht
    obtain ⟨s, hs, rfl⟩ := List.mem_map.1 ht
    exact hwz s (List.mem_of_mem_take hs)
  · obtain ⟨t, ht⟩ : ∃ t, ((ss.take l).map (·.data.toList))[0]? = some t := ⟨_, List.getElem?_eq_getElem (List.length_pos_iff.2 hne)⟩
    have := block_lt_of_cell (key 0 t ht)
    rwa [add_block] at this

/-- What is left of a measure. -/
def SzPost (ts : List (List UInt8)) (w : World) (e : Ending) (w' : World) : Prop := ∃ r : Int, e = .returned (.int .i64 r) ∧ (0 ≤ r → ts.length ≤ 1048576) ∧ w = w'

theorem szStringS (ts : List (List UInt8)) (A : Option Addr) (n c : Nat) (w : World) (h : Arg w A n c ts) :
    Calls Try.prog 19 #[.slice A n c, .int .i64 1048576] w (SzPost ts w) := by
  obtain ⟨hn, h2, h3, h4, h5⟩ := h
  have HN := Lib.hid hn
  have H4 := Lib.hid h4
  have H5 := Lib.hid h5
  clear hn h4 h5
  unfold maxLen at h3
  have hw : IntKind.i64.wrap (1048576 - (n : Int)) = 1048576 - (n : Int) := IntWalk.i64_in _ (by omega)
  by_cases hb : 1048576 < n
  · have hd : decide (1048576 - (n : Int) < 0) = true := by simp; omega
    have hd2 : 1048576 - (n : Int) < 0 := by omega
    go_enter Try.func19, Try.ntmps19
    go_wp2_with fail
    go_ret
    exact ⟨_, rfl, fun h => absurd h (by omega), rfl⟩
  · have hd : decide (1048576 - (n : Int) < 0) = false := by simp; omega
    have hd2 : ¬ (1048576 - (n : Int) < 0) := by omega
    go_enter Try.func19, Try.ntmps19
    go_wp2_with fail
    clear hd hd2
    go_loopw [1, 5] (fun l j wr => ∃ (k : Nat) (L : Int), k ≤ n ∧ j = .int .i64 k ∧ l = .int .i64 L ∧ 0 ≤ L ∧ L ≤ 1048576 ∧ wr = w) (fun _ j _ => n - (intOf j).toNat)
    case atStart => exact ⟨0, _, Nat.zero_le _, rfl, rfl, by omega, by omega, rfl⟩
    case round =>
      obtain ⟨k, L, hk, rfl, rfl, hL0, hL1, rfl⟩ := hrel
      by_cases hlt : k < n
      · obtain ⟨t, ht⟩ : ∃ t, ts[k]? = some t := ⟨_, List.getElem?_eq_getElem (by rw [HN.out]; exact hlt)⟩
        obtain ⟨ad, rfl, hbl, hcells⟩ := H5.out (by intro e; rw [e] at ht; cases ht)
        have hcell := hcells k t ht
        obtain ⟨S, hS⟩ : ∃ S : ByteArray, S = ⟨t.toArray⟩ := ⟨_, rfl⟩
        rw [← hS] at hcell
        have hsz : S.size ≤ maxLen := by rw [hS]; exact H4.out t (List.mem_of_getElem? ht)
        unfold maxLen at hsz
        have hw2 : IntKind.i64.wrap (L - (S.size : Int)) = L - (S.size : Int) := IntWalk.i64_in _ (by omega)
        clear hcells ht hS
        by_cases hneg : L - (S.size : Int) < 0
        · go_wp2_with fail
          go_ret
          exact ⟨_, rfl, fun h => absurd h (by omega), rfl⟩
        · go_wp2_with fail
          go_roundw
          case rel => exact ⟨k + 1, _, by omega, by go_num, rfl, by omega, by omega, by first | rfl | trivial⟩
          case measure => simp [intOf]; omega
      · go_wp2_with fail
        go_ret
        exact ⟨_, rfl, fun _ => by rw [HN.out]; omega, rfl⟩

theorem toStringS (ts : List (List UInt8)) (A : Option Addr) (n c : Nat) (w : World) (hl : n ≤ 1048576) (h : Arg w A n c ts) :
    Calls Try.prog 21 #[.slice A n c] w fun e w' => (∃ v, e = .returned v ∧ Res w' w.heap.size 9 v (textsV ts)) ∧ Below w.heap.size w w' := by
  obtain ⟨hn, h2, h3, h4, h5⟩ := h
  have HN := Lib.hid hn
  have H5 := Lib.hid h5
  clear hn h4 h5
  go_enter Try.func21, Try.ntmps21
  go_wp2_with (first
    | ((with_reducible refine wpList_makeS 22 9 (.string ⟨#[]⟩) 16 _ _ n ?_ ?_ Try.underlying22 infoS (by decide) (by omega) ?_); rfl; rfl; intro cur hcur; (try simp only [Act.put, List.setIfInBounds_toArray, List.set_cons_succ, List.set_cons_zero, World.size_alloc, Nat.add_assoc, Nat.reduceAdd]))
    | fail)
  have HCUR := Lib.hid hcur
  clear hcur
  go_loopw [4] (fun i wr => ∃ (k : Nat) (cu : Array Value), k ≤ n ∧ i = .int .i64 k ∧ Hid (cu.size = n) ∧ Hid (wr.heap[w.heap.size]? = some (.cells cu 9 (0, 0))) ∧ Hid (∀ j t, j < k → ts[j]? = some t → cu[j]? = some (.string ⟨t.toArray⟩)) ∧ Below w.heap.size w wr) (fun i _ => n - (intOf i).toNat)
  case atStart => exact ⟨0, cur, Nat.zero_le _, rfl, HCUR, heap_alloc_new _ _, fun j t hj => absurd hj (by omega), (Below.refl _ _).alloc (Nat.le_refl _) _⟩
  case round =>
    obtain ⟨k, cu, hk, rfl, hS, hB, hJ, hBel⟩ := hrel
    by_cases hlt : k < n
    · obtain ⟨t, ht⟩ : ∃ t, ts[k]? = some t := ⟨_, List.getElem?_eq_getElem (by rw [HN.out]; exact hlt)⟩
      obtain ⟨ad, rfl, hbl, hcells⟩ := H5.out (by intro e; rw [e] at ht; cases ht)
      have hcell : wr.cell? (ad.add k) = some (.string ⟨t.toArray⟩) := (hBel.cell (p := ad.add k) (block_lt_of_cell (hcells k t ht))).trans (hcells k t ht)
      have hkc : k < cu.size := by rw [hS.out]; omega
      have c1 : wr.cell? ⟨w.heap.size, k, none⟩ = some cu[k] := by rw [cell_of_row _ _ _ _ _ _ hB.out]; simp
      have c2 : wr.frozen? ⟨w.heap.size, k, none⟩ = false := frozen_of_row _ _ _ _ _ hB.out
      have HN2 := Lib.hid (heap_setCell_same wr w.heap.size k cu 9 (.string ⟨t.toArray⟩) hB.out)
      have HT := Lib.hid ht
      have HBel := Lib.hid (hBel.setCell (p := ⟨w.heap.size, k, none⟩) (Nat.le_refl _) (.string ⟨t.toArray⟩))
      generalize cu[k] = old at *
      clear hB hcells ht
      go_wp2_with fail
      go_roundw
      case rel =>
        refine ⟨k + 1, cu.setIfInBounds k (.string ⟨t.toArray⟩), by omega, by go_num, ?_, HN2, fun j u hj hu => ?_, HBel.out⟩
        · show _ = _
          rw [Array.size_setIfInBounds]; exact hS.out
        · rw [Array.getElem?_setIfInBounds]
          by_cases e : k = j
          · subst e
            have e' := HT.out.symm.trans hu
            injection e' with e'
            subst e'
            rw [if_pos rfl, if_pos (by rw [hS.out]; omega)]
          · rw [if_neg e]; exact hJ.out j u (by omega) hu
      case measure => simp [intOf]; omega
    · obtain rfl : k = n := by omega
      go_wp2_with fail
      go_ret
      refine ⟨⟨_, rfl, some ⟨w.heap.size, 0, none⟩, k, by rw [textsV_length, HN.out]; rfl, by rw [textsV_length, HN.out]; exact Nat.le_refl _, by unfold maxLen; omega, fun _ => ⟨w.heap.size, cu, rfl, Nat.le_refl _, hB.out, fun j u hu => ?_⟩⟩, hBel⟩
      have hjl : j < ts.length := by have := (List.getElem?_eq_some_iff.1 hu).1; rwa [textsV_length] at this
      obtain ⟨t, ht⟩ : ∃ t, ts[j]? = some t := ⟨_, List.getElem?_eq_getElem hjl⟩
      rw [textsV_get _ _ _ ht] at hu
      injection hu with hu
      rw [← hu]
      exact hJ.out j t (by rw [← HN.out]; exact hjl) ht

end Go.Proofs.Ytdpojljcefglmaa
