/- Walks: implicants; a list of texts is searched. -/
import Derived.Test.YtnplaiolencgjaaWk
import Derived.Test.YtnplaiolencgjaaWr
import Derived.Test.YtnplaiolencgjaaWq
namespace Go.Proofs.Ytnplaiolencgjaa
set_option linter.unusedVariables false
set_option linter.unusedSimpArgs false
open Go.RowKit

theorem below_draws2 {w w' : World} (h : ∃ n, w' = w.drewN n) : Below w.heap.size w w' := by
  obtain ⟨n, rfl⟩ := h
  exact ⟨rfl, rfl, rfl, Nat.le_refl _, fun _ _ => rfl⟩

theorem l2ImpliesS (f t : ByteArray) (w : World) (h32 : f.size ≤ 32) (ht : t.size ≤ 5) (hz : f.data.toList.all zb = true) (htb : t.data.toList.all tb = true) :
    Calls Try.prog 53 #[.string f, .string t] w fun e w' => e = .returned (.bool (impB (tv f.data.toList) f.size t.data.toList)) ∧ ∃ n, w' = w.drewN n := by
  have HZ := Lib.hid hz
  have HT := Lib.hid htb
  clear hz htb
  go_enter Try.func53, Try.ntmps53
  go_wp2_with fail
  go_loopw [5] (fun i wr => ∃ k : Nat, k ≤ f.size ∧ i = .int .i64 k ∧ Hid (∀ s, s < k → hasN t.data.toList s = true → tv f.data.toList s ≠ 0) ∧ Hid (∃ n, wr = w.drewN n)) (fun i _ => f.size - (intOf i).toNat)
  case atStart => exact ⟨0, Nat.zero_le _, rfl, fun s hs => absurd hs (by omega), ⟨0, rfl⟩⟩
  case round =>
    obtain ⟨k, hk, rfl, hj, hB⟩ := hrel
    by_cases hlt : k < f.size
    · have hv := tv_le _ HZ.out k
      go_wp2_with fail
      refine (l2HasS t k _ ht (by omega) HT.out).mono ?_
      rintro e w1 ⟨rfl, hw1⟩
      have hB1 : Hid (∃ n, w1 = w.drewN n) := by
        obtain ⟨n, rfl⟩ := hB.out
        obtain ⟨q, rfl⟩ := hw1
        exact ⟨n + q, by rw [World.drewN_drewN]⟩
      clear hw1 hB
      cases hh : hasN t.data.toList k
      · have HH := Lib.hid hh
        clear hh
        go_wp2_with fail
        go_roundw
        case rel =>
          refine ⟨k + 1, by omega, by go_num, fun s hs hs2 => ?_, hB1⟩
          rcases Nat.lt_or_ge s k with h | h
          · exact hj.out s h hs2
          · obtain rfl : s = k := by omega
            rw [HH.out] at hs2; cases hs2
        case measure => simp [intOf]; omega
      · have HH := Lib.hid hh
        clear hh
        go_wp2_with fail
        refine (l1AtS f k _ hlt HZ.out).mono ?_
        rintro e w' ⟨rfl, rfl⟩
        rcases (show tv f.data.toList k = 0 ∨ tv f.data.toList k = 1 by omega) with c | c
        · have HF := Lib.hid (impB_false (tv f.data.toList) f.size t.data.toList k hlt HH.out c)
          go_wp2_with fail
          go_ret
          exact ⟨ret_bool HF.out.symm, hB1.out⟩
        · go_wp2_with fail
          go_roundw
          case rel =>
            refine ⟨k + 1, by omega, by go_num, fun s hs hs2 => ?_, hB1⟩
            rcases Nat.lt_or_ge s k with h | h
            · exact hj.out s h hs2
            · obtain rfl : s = k := by omega
              omega
          case measure => simp [intOf]; omega
    · go_wp2_with fail
      go_ret
      exact ⟨ret_bool (impB_true _ _ _ (fun s hs => hj.out s (by omega))).symm, hB.out⟩

theorem impliesI (n m : Nat) (g : Nat → Nat) (t : ByteArray) (w : World) (h5 : n ≤ 5) (hm : 2 ^ n = m) (hg : ∀ s, g s ≤ 1) (ht : t.size ≤ 5) (htb : t.data.toList.all tb = true) :
    Calls Try.prog 23 #[.agg (tcells n g), .string t] w fun e w' => e = .returned (.bool (impB g m t.data.toList)) ∧ Below w.heap.size w w' := by
  have HG := Lib.hid hg
  have HM := Lib.hid hm
  have HTb := Lib.hid htb
  have hm32 : m ≤ 32 := by rw [← hm]; exact pow_le32 n h5
  clear hg hm htb
  go_enter Try.func23, Try.ntmps23
  go_wp2_with (first | ((with_reducible refine wpList_loadT 38 _ (w.heap.size) (n) (g) 38 _ ?_ ?_ Try.underlying38 infoT ?_); rfl; exact (heap_alloc_new _ _); (try simp only [Act.put, List.setIfInBounds_toArray, List.set_cons_succ, List.set_cons_zero, World.size_alloc, Nat.add_assoc, Nat.reduceAdd])) | fail)
  refine (width n _ h5 _).mono ?_
  rw [HM.out]
  rintro e w1 ⟨rfl, hb1⟩
  have hT : w1.heap[w.heap.size]? = some (.cells (tcells n g) 38 (0, 0)) := (hb1.block _ (by simp)).trans (heap_alloc_new _ _)
  have hB : Below w.heap.size w w1 := ((Below.refl _ _).alloc (Nat.le_refl _) _).trans (hb1.mono (by simp))
  have HT := Lib.hid hT
  clear hb1 hT
  go_wp2_with fail
  go_loopw [8] (fun j wr => ∃ k : Nat, k ≤ m ∧ j = .int .i64 k ∧ Hid (∀ s, s < k → hasN t.data.toList s = true → g s ≠ 0) ∧ Hid (wr.heap[w.heap.size]? = some (.cells (tcells n g) 38 (0, 0))) ∧ Below w.heap.size w wr) (fun j _ => m - (intOf j).toNat)
  case atStart => exact ⟨0, Nat.zero_le _, rfl, fun s hs => absurd hs (by omega), HT, hB⟩
  case round =>
    clear HT hB
    obtain ⟨k, hk, rfl, hj, hT, hB⟩ := hrel
    by_cases hlt : k < m
    · have hv := HG.out k
      go_wp2_with fail
      refine (hasStateI t k _ ht (by omega) HTb.out).mono ?_
      rintro e w2 ⟨rfl, hw2⟩
      have hB2 := hB.trans ((below_draws2 hw2).mono hB.size)
      have hT2 : Hid (w2.heap[w.heap.size]? = some (.cells (tcells n g) 38 (0, 0))) := ((below_draws2 hw2).block _ (lt_of_block hT.out)).trans hT.out
      have hc : w2.cell? ⟨w.heap.size, 1 + k, none⟩ = some (.int .u8 ((g k : Nat) : Int)) := by
        rw [cell_of_row _ _ _ _ _ _ hT2.out]; exact tcells_succ _ _ _ (by omega)
      clear hw2 hB hT
      have hk32 : k < 32 := by omega
      cases hh : hasN t.data.toList k
      · have HH := Lib.hid hh
        clear hh
        go_wp2_with fail
        go_roundw
        case rel =>
          refine ⟨k + 1, by omega, by go_num, fun s hs hs2 => ?_, hT2, hB2⟩
          rcases Nat.lt_or_ge s k with h | h
          · exact hj.out s h hs2
          · obtain rfl : s = k := by omega
            rw [HH.out] at hs2; cases hs2
        case measure => simp [intOf]; omega
      · have HH := Lib.hid hh
        clear hh
        rcases (show g k = 0 ∨ g k = 1 by omega) with c | c
        · have HF := Lib.hid (impB_false g m t.data.toList k hlt HH.out c)
          go_wp2_with fail
          go_ret
          exact ⟨ret_bool HF.out.symm, hB2⟩
        · go_wp2_with fail
          go_roundw
          case rel =>
            refine ⟨k + 1, by omega, by go_num, fun s hs hs2 => ?_, hT2, hB2⟩
            rcases Nat.lt_or_ge s k with h | h
            · exact hj.out s h hs2
            · obtain rfl : s = k := by omega
              omega
          case measure => simp [intOf]; omega
    · go_wp2_with fail
      go_ret
      exact ⟨ret_bool (impB_true _ _ _ (fun s hs => hj.out s (by omega))).symm, hB⟩

/-- What a test of texts, handed over as a value, does. -/
def Ft (w : World) (gf : Nat) (caps : Array Value) (ts : List (List UInt8)) (p : List UInt8 → Bool) : Prop :=
  ∀ t ∈ ts, ∀ w1 : World, Below w.heap.size w w1 → Calls Try.prog gf (#[.string ⟨t.toArray⟩] ++ caps) w1 fun e w2 => e = .returned (.bool (p t)) ∧ Below w1.heap.size w1 w2

/-- An index, or a number below 0. -/
def IdxPost (b : Bool) (w : World) (e : Ending) (w' : World) : Prop := ∃ r : Int, e = .returned (.int .i64 r) ∧ decide (0 ≤ r) = b ∧ Below w.heap.size w w'

theorem indexFunc_some (ts : List (List UInt8)) (b o c gf : Nat) (caps : Array Value) (p : List UInt8 → Bool) (w : World) (hl : ts.length ≤ 1048576) (hlt0 : b < w.heap.size) (hc : ∀ k t, ts[k]? = some t → w.cell? ⟨b, o + k, none⟩ = some (.string ⟨t.toArray⟩))
    (eg : ∀ args w, (callFunc gf args).run Try.prog w = .ok (.enter gf args) w) (hp : Ft w gf caps ts p) :
    Calls Try.prog 43 #[.slice (some ⟨b, o, none⟩) ts.length c, .func (.func gf) #[] caps] w (IdxPost (ts.any p) w) := by
  have HC := Lib.hid hc
  have HP := Lib.hid hp
  obtain ⟨m, hm⟩ : ∃ m, m = ts.length := ⟨_, rfl⟩
  rw [← hm]
  rw [← hm] at hl
  have HM := Lib.hid hm
  clear hc hp hm
  go_enter Try.func43, Try.ntmps43
  go_wp2_with fail
  go_loopw [8] (fun i wr => ∃ k : Nat, k ≤ m ∧ i = .int .i64 k ∧ Hid ((ts.take k).any p = false) ∧ Below w.heap.size w wr) (fun i _ => m - (intOf i).toNat)
  case atStart => exact ⟨0, Nat.zero_le _, rfl, rfl, Below.refl _ _⟩
  case round =>
    obtain ⟨k, hk, rfl, ha, hB⟩ := hrel
    by_cases hlt : k < m
    · obtain ⟨t, ht⟩ : ∃ t, ts[k]? = some t := ⟨_, List.getElem?_eq_getElem (by rw [HM.out] at hlt; exact hlt)⟩
      have hcell : wr.cell? ⟨b, o + k, none⟩ = some (.string ⟨t.toArray⟩) := (hB.cell (p := ⟨b, o + k, none⟩) hlt0).trans (HC.out k t ht)
      have HS := Lib.hid (any_take_succ ts p k t ht)
      have HT := Lib.hid ht
      clear ht
      go_wp2_with fail
      refine (HP.out t (List.mem_of_getElem? HT.out) wr hB).mono ?_
      rintro e w1 ⟨rfl, hb1⟩
      have hB1 := hB.trans (hb1.mono hB.size)
      clear hb1 hcell
      cases hpt : p t
      · have HPT := Lib.hid hpt
        clear hpt
        go_wp2_with fail
        go_roundw
        case rel => exact ⟨k + 1, by omega, by go_num, by show _ = _; rw [HS.out, ha.out, HPT.out]; rfl, hB1⟩
        case measure => simp [intOf]; omega
      · have HPT := Lib.hid hpt
        clear hpt
        go_wp2_with fail
        go_ret
        exact ⟨_, rfl, by rw [any_of_at ts p k t HT.out HPT.out]; simp, hB1⟩
    · have HA := Lib.hid (show ts.any p = false by have := ha.out; rwa [List.take_of_length_le (by rw [← HM.out]; omega)] at this)
      go_wp2_with fail
      go_ret
      exact ⟨_, rfl, by rw [HA.out]; rfl, hB⟩

theorem indexFunc_nil (A : Option Addr) (c : Nat) (fv : Value) (w : World) :
    Calls Try.prog 43 #[.slice A 0 c, fv] w fun e w' => e = .returned (.int .i64 (-1)) ∧ w = w' := by
  go_enter Try.func43, Try.ntmps43
  go_wp2_with fail
  refine wp_loop_rounds 1 ?_
  rw [rounds_succ]
  go_wp2_with fail
  go_ret
  exact ⟨rfl, rfl⟩

theorem containsFunc (ts : List (List UInt8)) (v : Value) (gf : Nat) (caps : Array Value) (p : List UInt8 → Bool) (w : World) (hl : ts.length ≤ 1048576) (hr : Row w v (textsV ts))
    (eg : ∀ args w, (callFunc gf args).run Try.prog w = .ok (.enter gf args) w) (hp : Ft w gf caps ts p) :
    Calls Try.prog 27 #[v, .func (.func gf) #[] caps] w fun e w' => e = .returned (.bool (ts.any p)) ∧ Below w.heap.size w w' := by
  have key : Calls Try.prog 43 #[v, .func (.func gf) #[] caps] w (IdxPost (ts.any p) w) := by
    obtain ⟨A, c, rfl, h1, h2, hc⟩ := hr
    rw [textsV_length] at h1 ⊢
    by_cases hz : ts = []
    · subst hz
      exact (indexFunc_nil A c _ w).mono fun e w' ⟨he, hw⟩ => ⟨-1, he, rfl, hw ▸ Below.refl _ _⟩
    · obtain ⟨b, off, rfl, hlt, hk⟩ := hc (by simpa [textsV] using hz)
      exact indexFunc_some ts b off c gf caps p w hl hlt (fun k t h => hk k _ (textsV_get _ _ _ h)) eg hp
  have KEY := Lib.hid key
  clear key hr hp
  go_enter Try.func27, Try.ntmps27
  go_wp2_with fail
  refine KEY.out.mono ?_
  rintro e w1 ⟨r, rfl, hd, hb1⟩
  have HD := Lib.hid hd
  clear hd
  go_wp2_with fail
  go_ret
  exact ⟨ret_bool HD.out, hb1⟩

end Go.Proofs.Ytnplaiolencgjaa
