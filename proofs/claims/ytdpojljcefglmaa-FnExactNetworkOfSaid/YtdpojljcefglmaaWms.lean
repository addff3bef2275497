/- Walks: lists of texts are compared, marked, held. -/
import Derived.Test.YtdpojljcefglmaaPe
import Derived.Test.YtdpojljcefglmaaWm
import Derived.Test.YtdpojljcefglmaaWt
import Derived.Deep.RegionHeld3
namespace Go.Proofs.Ytdpojljcefglmaa
set_option linter.unusedVariables false
set_option linter.unusedSimpArgs false
open Go.RowKit

theorem markTextS (k : Nat) (w : World) (h1 : 1 ≤ k) (hk : k ≤ 99999) :
    Calls Try.prog 29 #[.int .i64 (k : Int)] w fun e w' => e = .returned (.string ⟨(mtL k).toArray⟩) ∧ Below w.heap.size w w' := by
  have hd : decide (k = 0) = false := by simp; omega
  have hd2 : decide ((k : Int) ≤ 0) = false := by simp; omega
  go_enter Try.func29, Try.ntmps29
  go_wp2_with fail
  go_loopw [0, 3] (fun q o wr => ∃ (f r : Nat) (O : ByteArray), q = .int .i64 (r : Int) ∧ o = .string O ∧ O.size ≤ 6 - f ∧ f ≤ 6 ∧ r ≤ 99999 ∧ Hid (r < 10 ^ f) ∧ Hid (mtF f r O.data.toList = mtF 6 k []) ∧ Below w.heap.size w wr) (fun q _ _ => (intOf q).toNat)
  case atStart => exact ⟨6, k, _, rfl, rfl, Nat.le_refl _, Nat.le_refl _, hk, (by show k < 1000000; omega), rfl, Below.refl _ _⟩
  case round =>
    obtain ⟨f, r, O, rfl, rfl, hO, hf, hr, hlt, hE, hB⟩ := hrel
    by_cases h0 : 0 < r
    · obtain ⟨f, rfl⟩ : ∃ f', f = f' + 1 := by
        cases f with
        | zero => have := hlt.out; simp at this; omega
        | succ f => exact ⟨f, rfl⟩
      have HS := Lib.hid (mtF_succ f r O.data.toList h0)
      have HL := Lib.hid (show r / 10 < 10 ^ f by have := hlt.out; rw [Nat.pow_succ] at this; omega)
      have hmod : ((48 : Int) + (r : Int) % 10) % 256 = ((48 + r % 10 : Nat) : Int) := by omega
      have hO6 : O.size ≤ 6 := by omega
      have hbl : (bl 1 fun _ => 48 + r % 10).length = 1 := rfl
      go_wp2_with (first
        | ((with_reducible refine wpList_strB 65 9 5 _ wr.heap.size 1 1 (fun _ => 48 + r % 10) ?_ Try.underlying65 Try.underlying5 Try.underlying9 ?_ ?_ ?_); rfl; exact heap_alloc_new _ _; (intro i hi; omega); (try simp only [Act.put, List.setIfInBounds_toArray, List.set_cons_succ, List.set_cons_zero, World.size_alloc, Nat.add_assoc, Nat.reduceAdd]))
        | fail)
      go_roundw
      case rel =>
        refine ⟨f, r / 10, _, by go_num, rfl, ?_, by omega, by omega, HL, ?_, hB.alloc hB.size _⟩
        · rw [ByteArray.size_append]; show 1 + O.size ≤ 6 - f; omega
        · show _ = _
          rw [← hE.out, HS.out]
          simp [bl]
      case measure => simp [intOf]; omega
    · obtain rfl : r = 0 := by omega
      have HE := Lib.hid (show (109 : UInt8) :: O.data.toList = mtL k by have := hE.out; rw [mtF_zero] at this; rw [this]; rfl)
      have hO6 : O.size ≤ 6 := by omega
      go_wp2_with fail
      go_ret
      refine ⟨ret_str ?_, hB⟩
      rw [← HE.out]
      apply ByteArray.ext
      simp

theorem eqStringS_some (zs : List (List UInt8)) (b o c b2 o2 c2 : Nat) (w : World) (hl : zs.length ≤ 1048576) (h1 : ∀ k z, zs[k]? = some z → w.cell? ⟨b, o + k, none⟩ = some (.string ⟨z.toArray⟩)) (h2 : ∀ k z, zs[k]? = some z → w.cell? ⟨b2, o2 + k, none⟩ = some (.string ⟨z.toArray⟩)) :
    Calls Try.prog 10 #[.slice (some ⟨b, o, none⟩) zs.length c, .slice (some ⟨b2, o2, none⟩) zs.length c2] w fun e w' => e = .returned (.bool true) ∧ Below w.heap.size w w' := by
  have H1 := Lib.hid h1
  have H2 := Lib.hid h2
  obtain ⟨m, hm⟩ : ∃ m, m = zs.length := ⟨_, rfl⟩
  rw [← hm]
  rw [← hm] at hl
  have HM := Lib.hid hm
  clear h1 h2 hm
  go_enter Try.func10, Try.ntmps10
  go_wp2_with fail
  go_loopw [5] (fun i wr => ∃ k : Nat, k ≤ m ∧ i = .int .i64 k ∧ Hid (∃ n, wr = w.drewN n)) (fun i _ => m - (intOf i).toNat)
  case atStart => exact ⟨0, Nat.zero_le _, rfl, ⟨0, rfl⟩⟩
  case round =>
    obtain ⟨k, hk, rfl, hW⟩ := hrel
    by_cases hlt : k < m
    · obtain ⟨z, hz⟩ : ∃ z, zs[k]? = some z := ⟨_, List.getElem?_eq_getElem (by rw [HM.out] at hlt; exact hlt)⟩
      have c1 : wr.cell? ⟨b, o + k, none⟩ = some (.string ⟨z.toArray⟩) := by obtain ⟨n, rfl⟩ := hW.out; exact H1.out k z hz
      have c2 : wr.cell? ⟨b2, o2 + k, none⟩ = some (.string ⟨z.toArray⟩) := by obtain ⟨n, rfl⟩ := hW.out; exact H2.out k z hz
      clear hz
      go_wp2_with fail
      go_quiet (fail)
      go_wp2_with fail
      go_roundw
      case rel =>
        refine ⟨k + 1, by omega, by go_num, ?_⟩
        obtain ⟨n, rfl⟩ := hW.out
        exact ⟨n + nq, by rw [World.drewN_drewN]⟩
      case measure => simp [intOf]; omega
    · go_wp2_with fail
      go_ret
      refine ⟨rfl, ?_⟩
      obtain ⟨n, rfl⟩ := hW.out
      exact below_drewN (Below.refl _ _) n

theorem eqStringS_nil (A B : Option Addr) (c d : Nat) (w : World) :
    Calls Try.prog 10 #[.slice A 0 c, .slice B 0 d] w fun e w' => e = .returned (.bool true) ∧ w = w' := by
  go_enter Try.func10, Try.ntmps10
  go_wp2_with fail
  refine wp_loop_rounds 1 ?_
  rw [rounds_succ]
  go_wp2_with fail
  go_ret
  exact ⟨rfl, rfl⟩

theorem eqStringSLb (zs : List (List UInt8)) (v u : Value) (w : World) (hl : zs.length ≤ 1048576) (h1 : Row w v (textsV zs)) (h2 : Row w u (textsV zs)) :
    Calls Try.prog 10 #[v, u] w fun e w' => e = .returned (.bool true) ∧ Below w.heap.size w w' := by
  obtain ⟨A, c, rfl, a1, a2, hA⟩ := h1
  obtain ⟨B, d, rfl, b1, b2, hB⟩ := h2
  rw [show (textsV zs).length = zs.length by simp [textsV]]
  by_cases hz : zs = []
  · subst hz
    exact (eqStringS_nil A B c d w).mono fun e w' ⟨he, hw⟩ => ⟨he, hw ▸ Below.refl _ _⟩
  · obtain ⟨b, off, rfl, hlt, hk⟩ := hA (by simpa [textsV] using hz)
    obtain ⟨b', off', rfl, hlt', hk'⟩ := hB (by simpa [textsV] using hz)
    exact eqStringS_some zs b off c b' off' d w hl (fun k z h => hk k _ (textsV_get _ _ _ h)) (fun k z h => hk' k _ (textsV_get _ _ _ h))

theorem eqStringSL (zs : List (List UInt8)) (v u : Value) (w : World) (hl : zs.length ≤ 65536) (h1 : Row w v (textsV zs)) (h2 : Row w u (textsV zs)) :
    Calls Try.prog 10 #[v, u] w fun e w' => e = .returned (.bool true) ∧ Below w.heap.size w w' := eqStringSLb zs v u w (Nat.le_trans hl (by decide)) h1 h2

theorem markStringS_some (g m c : Nat) (cur : Array Value) (e0 : TypeId) (w : World) (hm : m ≤ 65536) (hmc : m ≤ cur.size) (hg : w.heap[g]? = some (.cells cur e0 (0, 0))) :
    Calls Try.prog 11 #[.slice (some ⟨g, 0, none⟩) m c, .int .i64 1] w fun e w' => e = .returned (.int .i64 ((1 + m : Nat) : Int)) ∧ ∃ cur', w'.heap[g]? = some (.cells cur' e0 (0, 0)) ∧ (∀ k, k < m → cur'[k]? = some (.string ⟨(mtL (k + 1)).toArray⟩)) ∧ w.grownBy w' (some g) := by
  have HG := Lib.hid hg
  clear hg
  go_enter Try.func11, Try.ntmps11
  go_wp2_with fail
  go_loopw [1, 5] (fun q i wr => ∃ (k : Nat) (cu : Array Value), k ≤ m ∧ i = .int .i64 k ∧ q = .int .i64 ((1 + k : Nat) : Int) ∧ Hid (cu.size = cur.size) ∧ Hid (wr.heap[g]? = some (.cells cu e0 (0, 0))) ∧ Hid (∀ j, j < k → cu[j]? = some (.string ⟨(mtL (j + 1)).toArray⟩)) ∧ w.grownBy wr (some g)) (fun _ i _ => m - (intOf i).toNat)
  case atStart => exact ⟨0, cur, Nat.zero_le _, rfl, rfl, rfl, HG, fun j hj => absurd hj (by omega), World.grownBy.refl w _⟩
  case round =>
    obtain ⟨k, cu, hk, rfl, rfl, hS, hB, hJ, hGr⟩ := hrel
    by_cases hlt : k < m
    · have hkc : k < cu.size := by rw [hS.out]; omega
      go_wp2_with fail
      refine (markTextS (1 + k) _ (by omega) (by omega)).mono ?_
      rw [Nat.add_comm 1 k]
      rintro e w1 ⟨rfl, hb1⟩
      have hB1 : Hid (w1.heap[g]? = some (.cells cu e0 (0, 0))) := (hb1.block g (lt_of_block hB.out)).trans hB.out
      have c1 : w1.cell? ⟨g, k, none⟩ = some cu[k] := by rw [cell_of_row _ _ _ _ _ _ hB1.out]; simp
      have c2 : w1.frozen? ⟨g, k, none⟩ = false := frozen_of_row _ _ _ _ _ hB1.out
      have HN := Lib.hid (heap_setCell_same w1 g k cu e0 (.string ⟨(mtL (k + 1)).toArray⟩) hB1.out)
      have hG1 : w.grownBy w1 (some g) := ⟨hb1.os.trans hGr.os, hb1.tape.trans hGr.tape, hb1.output.trans hGr.output, Nat.le_trans hGr.size hb1.size, fun i hi hne => (hb1.block i (Nat.lt_of_lt_of_le hi hGr.size)).trans (hGr.block i hi hne)⟩
      generalize cu[k] = old at *
      clear hB hGr hb1
      go_wp2_with fail
      go_roundw
      case rel =>
        refine ⟨k + 1, cu.setIfInBounds k (.string ⟨(mtL (k + 1)).toArray⟩), by omega, by go_num, by go_num, ?_, HN, fun j hj => ?_, ?_⟩
        · show _ = _
          rw [Array.size_setIfInBounds]; exact hS.out
        · rw [Array.getElem?_setIfInBounds]
          by_cases e : k = j
          · subst e; rw [if_pos rfl, if_pos (by rw [hS.out]; omega)]
          · rw [if_neg e]; exact hJ.out j (by omega)
        · exact ⟨hG1.os, hG1.tape, hG1.output, by simpa [World.setCell] using hG1.size, fun i hi hne => (Below.heap_setCell w1 ⟨g, k, none⟩ _ i (fun e => hne (by rw [e]))).trans (hG1.block i hi hne)⟩
      case measure => simp [intOf]; omega
    · obtain rfl : k = m := by omega
      go_wp2_with fail
      go_ret
      exact ⟨rfl, cu, hB.out, fun j hj => hJ.out j hj, hGr⟩

theorem markStringS_nil (A : Option Addr) (c : Nat) (w : World) :
    Calls Try.prog 11 #[.slice A 0 c, .int .i64 1] w fun e w' => e = .returned (.int .i64 1) ∧ w = w' := by
  go_enter Try.func11, Try.ntmps11
  go_wp2_with fail
  refine wp_loop_rounds 1 ?_
  rw [rounds_succ]
  go_wp2_with fail
  go_ret
  exact ⟨rfl, rfl⟩

theorem markStringSL (zs : List (List UInt8)) (v : Value) (base : Nat) (e0 : TypeId) (w : World) (hl : zs.length ≤ 65536) (hb : base ≤ w.heap.size) (h : Res w base e0 v (textsV zs)) :
    Calls Try.prog 11 #[v, .int .i64 1] w fun e w' => e = .returned (.int .i64 ((1 + zs.length : Nat) : Int)) ∧ Res w' base e0 v (textsV (marksS zs.length)) ∧ Below base w w' := by
  obtain ⟨A, c, rfl, a1, a2, hA⟩ := h
  have hn : (textsV zs).length = zs.length := textsV_length zs
  have hn2 : (textsV (marksS zs.length)).length = zs.length := by rw [textsV_length, marksS_length]
  rw [hn] at a1 ⊢
  by_cases hz : zs = []
  · subst hz
    refine (markStringS_nil A c w).mono ?_
    rintro e w' ⟨rfl, rfl⟩
    exact ⟨rfl, ⟨A, c, rfl, Nat.zero_le _, a2, fun h => absurd rfl h⟩, Below.refl _ _⟩
  · obtain ⟨g, cur, rfl, hbg, hg, hk⟩ := hA (by simpa [textsV] using hz)
    have hmc : zs.length ≤ cur.size := by
      have hp : 0 < zs.length := List.length_pos_iff.2 hz
      have hx : (textsV zs)[zs.length - 1]? = some ((textsV zs)[zs.length - 1]'(by omega)) := List.getElem?_eq_getElem _
      have := (Array.getElem?_eq_some_iff.1 (hk _ _ hx)).1
      omega
    refine (markStringS_some g zs.length c cur e0 w hl hmc hg).mono ?_
    rintro e w' ⟨rfl, cur', hg', hk', hgr⟩
    refine ⟨rfl, ⟨some ⟨g, 0, none⟩, c, by rw [hn2], by omega, a2, fun _ => ⟨g, cur', rfl, hbg, hg', fun k u hu => ?_⟩⟩, (Below.refl _ _).grown hgr hb (fun k hk => by injection hk with hk; omega)⟩
    have hkl : k < zs.length := by have := (List.getElem?_eq_some_iff.1 hu).1; omega
    rw [hk' k hkl, ← hu, textsV_get _ _ _ (marksS_get _ _ hkl)]

theorem heldStringS_some (b o c m : Nat) (w : World) (hm : m ≤ 65536) (hbl : b < w.heap.size) (h1 : ∀ k, k < m → w.cell? ⟨b, o + k, none⟩ = some (.string ⟨(mtL (k + 1)).toArray⟩)) :
    Calls Try.prog 12 #[.slice (some ⟨b, o, none⟩) m c, .int .i64 1] w fun e w' => e = .returned (.int .i64 ((1 + m : Nat) : Int)) ∧ Below w.heap.size w w' := by
  have H1 := Lib.hid h1
  clear h1
  go_enter Try.func12, Try.ntmps12
  go_wp2_with fail
  go_loopw [1, 5] (fun q i wr => ∃ k : Nat, k ≤ m ∧ i = .int .i64 k ∧ q = .int .i64 ((k + 1 : Nat) : Int) ∧ Below w.heap.size w wr) (fun _ i _ => m - (intOf i).toNat)
  case atStart => exact ⟨0, Nat.zero_le _, rfl, rfl, Below.refl _ _⟩
  case round =>
    obtain ⟨k, hk, rfl, rfl, hB⟩ := hrel
    by_cases hlt : k < m
    · have c1 : wr.cell? ⟨b, o + k, none⟩ = some (.string ⟨(mtL (k + 1)).toArray⟩) := (hB.cell (p := ⟨b, o + k, none⟩) hbl).trans (H1.out k hlt)
      obtain ⟨S, hS⟩ : ∃ S : ByteArray, S = ⟨(mtL (k + 1)).toArray⟩ := ⟨_, rfl⟩
      rw [← hS] at c1
      have HS := Lib.hid hS
      clear hS
      have q0 : (0 : Int) ≤ (k : Int) := Int.natCast_nonneg _
      have q1 : (k : Int) < (m : Int) := by omega
      have hblr : b < wr.heap.size := Nat.lt_of_lt_of_le hbl hB.size
      have hmt := fun (W : World) => markTextS (k + 1) W (by omega) (by omega)
      have HMT := Lib.hid hmt
      clear hmt
      go_wp2_with fail
      go_region_held3 (fun w' => w'.cell? ⟨b, o + k, none⟩ = some (.string S))
        (first
          | go_keep
          | (rw [hb1.cell (by exact hblr)]; exact c1))
        (first | (go_at_call 29; refine (HMT.out _).mono ?_; rw [← HS.out]; rintro e w1 ⟨rfl, hb1⟩))
      have hB1 : Below w.heap.size w w1 := hB.trans ((show Below wr.heap.size wr w1 from ⟨hb1.os, hb1.tape, hb1.output, hb1.size, hb1.block⟩).mono hB.size)
      clear hb1 c1 hB
      go_wp2_with fail
      go_roundw
      case rel => exact ⟨k + 1, by omega, by go_num, by go_num, hB1⟩
      case measure => simp [intOf]; omega
    · obtain rfl : k = m := by omega
      go_wp2_with fail
      go_ret
      exact ⟨ret_int (by omega), hB⟩

theorem heldStringS_nil (A : Option Addr) (c : Nat) (w : World) :
    Calls Try.prog 12 #[.slice A 0 c, .int .i64 1] w fun e w' => e = .returned (.int .i64 1) ∧ w = w' := by
  go_enter Try.func12, Try.ntmps12
  go_wp2_with fail
  refine wp_loop_rounds 1 ?_
  rw [rounds_succ]
  go_wp2_with fail
  go_ret
  exact ⟨rfl, rfl⟩

theorem heldStringSB (m : Nat) (v : Value) (w : World) (hm : m ≤ 65536) (h : Row w v (textsV (marksS m))) :
    Calls Try.prog 12 #[v, .int .i64 1] w fun e w' => e = .returned (.int .i64 ((1 + m : Nat) : Int)) ∧ Below w.heap.size w w' := by
  obtain ⟨A, c, rfl, a1, a2, hA⟩ := h
  have hn : (textsV (marksS m)).length = m := by rw [textsV_length, marksS_length]
  rw [hn]
  by_cases hz : m = 0
  · subst hz
    exact (heldStringS_nil A c w).mono fun e w' ⟨he, hw⟩ => ⟨he, hw ▸ Below.refl _ _⟩
  · obtain ⟨b, off, rfl, hlt, hk⟩ := hA (by intro h; rw [h] at hn; exact hz hn.symm)
    exact heldStringS_some b off c m w hm hlt (fun k hkm => hk k _ (textsV_get _ _ _ (marksS_get _ _ hkm)))

end Go.Proofs.Ytdpojljcefglmaa
