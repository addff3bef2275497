/- Walks: the cover. -/
import Derived.Test.YtknkhcaaadnaiaaWv3
import Derived.Test.YtknkhcaaadnaiaaWv4
import Derived.Test.YtknkhcaaadnaiaaWp2
import Derived.Test.YtknkhcaaadnaiaaWp3
namespace Go.Proofs.Ytknkhcaaadnaiaa
set_option linter.unusedVariables false
set_option linter.unusedSimpArgs false
open Go.RowKit

theorem lgN_le (m : Nat) : lgN m ≤ 5 := by
  rcases Nat.eq_zero_or_pos (lgN m) with h | h
  · omega
  · exact (lgN_pos m h).2.1
theorem primL_size (l : List UInt8) (t : List UInt8) (h : t ∈ primL l) : l.length = 2 ^ t.length := by
  have h1 := (primL_mem l t h).1
  unfold primL at h
  split at h
  · next hb =>
    obtain ⟨n, _, _, hn, hlg, _, _⟩ := rt_yes _ hb
    rw [h1, hlg, hn]
  · cases h

theorem wout_le (l : List (List UInt8)) (i : Nat) : (wout l i).length ≤ l.length := by
  unfold wout; rw [List.length_append, List.length_take, List.length_drop]; omega
theorem covK_len (k : Nat) : ∀ l : List (List UInt8), (covK l k).length ≤ l.length := by
  induction k with
  | zero => intro l; exact Nat.le_refl _
  | succ k ih =>
    intro l
    rw [covK]
    refine Nat.le_trans (ih _) ?_
    split
    · exact Nat.le_refl _
    · exact wout_le _ _
theorem covL_len (l : List UInt8) : (covL l).length ≤ 65536 := Nat.le_trans (covK_len _ _) (Nat.le_trans (primL_len l) (by decide))

theorem coverOfI (f : ByteArray) (w : World) (hs : f.size ≤ maxLen) :
    Calls Try.prog 16 #[.string f] w fun e w' => (∃ v, e = .returned v ∧ Res w' w.heap.size 9 v (textsV (covL f.data.toList))) ∧ Below w.heap.size w w' := by
  have HL0 := Lib.hid (primL_len f.data.toList)
  have HT0 := Lib.hid (show ∀ t ∈ primL f.data.toList, t.length ≤ 5 ∧ t.all tb = true from fun t ht => ⟨by rw [(primL_mem _ t ht).1]; exact lgN_le _, (primL_mem _ t ht).2⟩)
  obtain ⟨Z, hZ⟩ : ∃ Z, Z = covL f.data.toList := ⟨_, rfl⟩
  have HC0 := Lib.hid (show Z = covK (primL f.data.toList) (primL f.data.toList).length from hZ)
  rw [← hZ]
  clear hZ
  go_enter Try.func16, Try.ntmps16
  go_wp2_with fail
  refine (primesOfI f _ hs).mono ?_
  rintro e w1 ⟨⟨v, rfl, hr⟩, hb1⟩
  generalize primL f.data.toList = P at *
  have HR := Lib.hid hr
  obtain ⟨A, c, rfl, h1, h2, hc⟩ := hr
  rw [textsV_length] at h1 HR ⊢
  have hl := HL0.out
  obtain ⟨n, hn⟩ : ∃ n, P.length = n := ⟨_, rfl⟩
  rw [hn] at HR hl ⊢
  have HN := Lib.hid hn
  have hw : IntKind.i64.wrap ((n : Int) - 1) = (n : Int) - 1 := IntWalk.i64_in _ (by omega)
  clear hc h1 h2 hn
  go_wp2_with fail
  go_loopw [3, 4] (fun v j wr => ∃ (l : List (List UInt8)) (k : Nat), k ≤ l.length ∧ l.length ≤ 243 ∧ j = .int .i64 ((k : Int) - 1) ∧ Hid (Res wr w.heap.size 9 v (textsV l)) ∧ Hid (Z = covK l k) ∧ Hid (∀ t ∈ l, t.length ≤ 5 ∧ t.all tb = true) ∧ Below w.heap.size w wr) (fun _ j _ => (intOf j + 1).toNat)
  case atStart => exact ⟨P, n, by rw [HN.out]; exact Nat.le_refl _, HL0.out, rfl, HR, by rw [← HN.out]; exact HC0, HT0, hb1⟩
  case round =>
    clear hb1 HR hw HN
    obtain ⟨l, k, hk, hl2, rfl, HRES, HZ, HT, hB⟩ := hrel
    rcases k with _ | k
    · rw [show (((0 : Nat) : Int) - 1) = -1 from rfl]
      go_wp2_with fail
      refine (clipS _ _ _ _ HRES.out).mono ?_
      rintro e w' ⟨⟨u, rfl, hu⟩, rfl⟩
      go_wp2_with fail
      go_ret
      exact ⟨⟨_, rfl, by rw [HZ.out]; exact hu⟩, hB⟩
    · rw [show (((k + 1 : Nat) : Int) - 1) = (k : Int) by omega]
      obtain ⟨A2, c2, hv2, k1, k2, hc2⟩ := HRES.out.row
      rw [textsV_length] at hv2 k1
      subst hv2
      obtain ⟨t, ht⟩ : ∃ t, l[k]? = some t := ⟨_, List.getElem?_eq_getElem (by omega)⟩
      obtain ⟨b, off, rfl, hbl, hcells⟩ := hc2 (by intro e; have e2 := textsV_get _ _ _ ht; rw [e] at e2; cases e2)
      have hcell : wr.cell? ⟨b, off + k, none⟩ = some (.string ⟨t.toArray⟩) := hcells k _ (textsV_get _ _ _ ht)
      obtain ⟨S, hS⟩ : ∃ S : ByteArray, S = ⟨t.toArray⟩ := ⟨_, rfl⟩
      rw [← hS] at hcell
      have HSS := Lib.hid hS
      have HK := Lib.hid ht
      have hw : IntKind.i64.wrap ((k : Int) - 1) = (k : Int) - 1 := IntWalk.i64_in _ (by omega)
      have HK2 := Lib.hid k2
      clear hcells hc2 hS ht k2
      go_wp2_with fail
      refine (withoutI l b off c2 k _ (by omega) (by omega) k1 HK2.out HRES.out.row).mono ?_
      rintro e w3 ⟨⟨u, rfl, hu⟩, hb3⟩
      have hcell3 : w3.cell? ⟨b, off + k, none⟩ = some (.string S) := (hb3.cell (p := ⟨b, off + k, none⟩) hbl).trans hcell
      have hbl3 : b < w3.heap.size := Nat.lt_of_lt_of_le hbl hb3.size
      have HU := Lib.hid hu
      have hszr := hB.size
      have hB3 : Below w.heap.size w w3 := hB.trans (hb3.mono hB.size)
      have HRES3 := Lib.hid (HRES.out.keep hb3)
      clear hcell hu hb3 hB HRES
      go_wp2_with fail
      have key : Calls Try.prog 40 #[.string S, u] w3 fun e w' => e = .returned (.bool (needB t (wout l k))) ∧ Below w3.heap.size w3 w' := by
        rw [HSS.out]
        have hm := HT.out t (List.mem_of_getElem? HK.out)
        exact neededI t u (wout l k) w3 hm.1 hm.2 (by rw [wout_length l k (by omega)]; omega) (fun x hx => HT.out x (wout_mem l k x hx)) (Row.of_own HU.out)
      refine key.mono ?_
      rintro e w4 ⟨rfl, hb4⟩
      have hB4 : Below w.heap.size w w4 := hB3.trans (hb4.mono hB3.size)
      have HRES4 := Lib.hid (HRES3.out.keep hb4)
      have HU4 := Lib.hid (own_below HU.out hb4)
      clear key hb4 hB3 HRES3 HU hcell3
      cases hnd : needB t (wout l k)
      · have HZ2 := Lib.hid (show Z = covK (wout l k) k by rw [HZ.out, covK_succ l k t HK.out, hnd]; rfl)
        clear hnd
        go_wp2_with fail
        go_roundw
        case rel => exact ⟨wout l k, k, by rw [wout_length l k (by omega)]; omega, by rw [wout_length l k (by omega)]; omega, by go_num, (Res.of_own HU4.out).mono hszr, HZ2, fun x hx => HT.out x (wout_mem l k x hx), hB4⟩
        case measure => simp [intOf]
      · have HZ2 := Lib.hid (show Z = covK l k by rw [HZ.out, covK_succ l k t HK.out, hnd]; rfl)
        clear hnd
        go_wp2_with fail
        go_roundw
        case rel => exact ⟨l, k, by omega, hl2, by go_num, HRES4, HZ2, HT, hB4⟩
        case measure => simp [intOf]

theorem coverOfS (f : ByteArray) (w : World) (hs : f.size ≤ maxLen) :
    Calls Try.prog 18 #[.string f] w fun e w' => (∃ v, e = .returned v ∧ Res w' w.heap.size 9 v (textsV (covL f.data.toList))) ∧ Below w.heap.size w w' := by
  have HL0 := Lib.hid (primL_len f.data.toList)
  have HT0 := Lib.hid (show ∀ t ∈ primL f.data.toList, (t.length ≤ 5 ∧ t.all tb = true) ∧ f.size = 2 ^ t.length from fun t ht => ⟨⟨by rw [(primL_mem _ t ht).1]; exact lgN_le _, (primL_mem _ t ht).2⟩, primL_size _ t ht⟩)
  obtain ⟨Z, hZ⟩ : ∃ Z, Z = covL f.data.toList := ⟨_, rfl⟩
  have HC0 := Lib.hid (show Z = covK (primL f.data.toList) (primL f.data.toList).length from hZ)
  rw [← hZ]
  clear hZ
  go_enter Try.func18, Try.ntmps18
  go_wp2_with fail
  refine (primesOfS f _ hs).mono ?_
  rintro e w1 ⟨⟨v, rfl, hr⟩, hb1⟩
  generalize primL f.data.toList = P at *
  have HR := Lib.hid hr
  obtain ⟨A, c, rfl, h1, h2, hc⟩ := hr
  rw [textsV_length] at h1 HR ⊢
  have hl := HL0.out
  obtain ⟨n, hn⟩ : ∃ n, P.length = n := ⟨_, rfl⟩
  rw [hn] at HR hl ⊢
  have HN := Lib.hid hn
  have hw : IntKind.i64.wrap ((n : Int) - 1) = (n : Int) - 1 := IntWalk.i64_in _ (by omega)
  clear hc h1 h2 hn
  go_wp2_with fail
  go_loopw [3, 4] (fun v j wr => ∃ (l : List (List UInt8)) (k : Nat), k ≤ l.length ∧ l.length ≤ 243 ∧ j = .int .i64 ((k : Int) - 1) ∧ Hid (Res wr w.heap.size 9 v (textsV l)) ∧ Hid (Z = covK l k) ∧ Hid (∀ t ∈ l, (t.length ≤ 5 ∧ t.all tb = true) ∧ f.size = 2 ^ t.length) ∧ Below w.heap.size w wr) (fun _ j _ => (intOf j + 1).toNat)
  case atStart => exact ⟨P, n, by rw [HN.out]; exact Nat.le_refl _, HL0.out, rfl, HR, by rw [← HN.out]; exact HC0, HT0, hb1⟩
  case round =>
    clear hb1 HR hw HN
    obtain ⟨l, k, hk, hl2, rfl, HRES, HZ, HT, hB⟩ := hrel
    rcases k with _ | k
    · rw [show (((0 : Nat) : Int) - 1) = -1 from rfl]
      go_wp2_with fail
      go_ret
      exact ⟨⟨_, rfl, by rw [HZ.out]; exact HRES.out⟩, hB⟩
    · rw [show (((k + 1 : Nat) : Int) - 1) = (k : Int) by omega]
      obtain ⟨A2, c2, hv2, k1, k2, hc2⟩ := HRES.out.row
      rw [textsV_length] at hv2 k1
      subst hv2
      obtain ⟨t, ht⟩ : ∃ t, l[k]? = some t := ⟨_, List.getElem?_eq_getElem (by omega)⟩
      obtain ⟨b, off, rfl, hbl, hcells⟩ := hc2 (by intro e; have e2 := textsV_get _ _ _ ht; rw [e] at e2; cases e2)
      have HCC := Lib.hid (show ∀ j t, l[j]? = some t → wr.cell? ⟨b, off + j, none⟩ = some (.string ⟨t.toArray⟩) from fun j t h => hcells j _ (textsV_get _ _ _ h))
      have HK := Lib.hid ht
      have hw : IntKind.i64.wrap ((k : Int) - 1) = (k : Int) - 1 := IntWalk.i64_in _ (by omega)
      clear hcells hc2 ht
      go_wp2_with fail
      have hm := HT.out t (List.mem_of_getElem? HK.out)
      refine (l2NeededS f t l b off c2 k l.length _ hm.2 HK.out rfl (by omega) (fun u hu => (HT.out u hu).1) hbl HCC.out).mono ?_
      rintro e w4 ⟨rfl, hb4⟩
      have hszr := hB.size
      have hB4 : Below w.heap.size w w4 := hB.trans (hb4.mono hB.size)
      have HRES4 := Lib.hid (HRES.out.keep hb4)
      have hsz4 := hB4.size
      clear hb4 hB HRES hm HCC
      cases hnd : needB t (wout l k)
      · have HZ2 := Lib.hid (show Z = covK (wout l k) k by rw [HZ.out, covK_succ l k t HK.out, hnd]; rfl)
        clear hnd
        obtain ⟨n2, hn2⟩ : ∃ n2, l.length = n2 := ⟨_, rfl⟩
        have hr := HRES4.out.row
        have R1 := Lib.hid (Src.of_row (row_take hr k (by omega)))
        have R2 := Lib.hid (show Src w4 (if c2 = k + 1 then some ⟨b, off, none⟩ else some ⟨b, off + (k + 1), none⟩) (textsV (l.drop (k + 1))) by
          split
          · next h =>
            rw [List.drop_eq_nil_of_le (by omega)]
            exact Src.none_ _ _
          · exact row_drop hr k (by omega))
        have HN2 := Lib.hid hn2
        unfold maxLen at k2
        rw [hn2] at k1 hl2 hk ⊢
        clear hr hn2
        have q0 : (0 : Int) ≤ (k : Int) := Int.natCast_nonneg _
        have q1 : (k : Int) ≤ (c2 : Int) := by omega
        have p1 : IntKind.i64.wrap ((k : Int) + 1) = (k : Int) + 1 := IntWalk.i64_in _ (by omega)
        have p2 : (0 : Int) ≤ (k : Int) + 1 := by omega
        have p3 : ((k : Int) + 1).toNat = k + 1 := by omega
        have p5 : (k : Int) + 1 ≤ (n2 : Int) := by omega
        have O1 := Lib.hid (show ((w4.alloc (Obj.cells #[] 9)).drew).ownsRow w4.heap.size 9 1 (.slice (some ⟨w4.heap.size, 0, none⟩) 0 0) 0 [] from ⟨rfl, .inr ⟨w4.heap.size, 0, #[], rfl, Nat.le_refl _, heap_alloc_new _ _, Nat.le_refl _, Nat.zero_le _, rfl, rfl⟩⟩)
        have B1 := Lib.hid (show Below w4.heap.size w4 (w4.alloc (Obj.cells #[] 9)).drew from ((Below.refl _ _).alloc (Nat.le_refl _) _).drew)
        go_wp2_with fail
        go_region_law (first
          | (refine step_append_row (w4.alloc (Obj.cells #[] 9)).drew (by rfl) _ _ _ (by rfl) w4.heap.size 9 (.string ⟨#[]⟩) 16 Try.underlying32 infoS rfl (.slice (some ⟨w4.heap.size, 0, none⟩) 0 0) 0 [] (by rfl) O1.out (some ⟨b, off, none⟩) k c2 (textsV (l.take k)) (by rfl) (by rw [textsV_length, List.length_take, HN2.out]; omega) (by exact Src.below R1.out B1.out) (texts_one _) (by omega) (by decide) (by exact B1.out.size) ?_; intro v5 w5 hown5 hg5 hat5 hbel5)
          | (refine step_append_row _ (by rfl) _ _ _ (by rfl) w4.heap.size 9 (.string ⟨#[]⟩) 16 Try.underlying32 infoS rfl v5 (0 + k) ([] ++ textsV (l.take k)) (by rfl) hown5 (if c2 = k + 1 then some ⟨b, off, none⟩ else some ⟨b, off + (k + 1), none⟩) (n2 - (k + 1)) (c2 - (k + 1)) (textsV (l.drop (k + 1))) (by rfl) (by rw [textsV_length, List.length_drop, HN2.out]) (by exact Src.below R2.out (B1.out.trans hbel5)) (texts_one _) (by omega) (by decide) (by exact (B1.out.trans hbel5).size) ?_; intro v6 w6 hown6 hg6 hat6 hbel6)
          | fail)
        have HB6 := Lib.hid (B1.out.trans (hbel5.trans hbel6))
        have HW := Lib.hid (show w6.ownsRow w4.heap.size 9 1 v6 (n2 - 1) (textsV (wout l k)) by
          rw [show 0 + k + (n2 - (k + 1)) = n2 - 1 by omega] at hown6
          simpa [wout, textsV] using hown6)
        clear hown5 hg5 hat5 hbel5 hown6 hg6 hat6 hbel6 O1 B1
        go_wp2_with fail
        all_goals
          go_roundw
          case rel => exact ⟨wout l k, k, by rw [wout_length l k (by rw [HN2.out]; omega), HN2.out]; omega, by rw [wout_length l k (by rw [HN2.out]; omega), HN2.out]; omega, by go_num, (Res.of_own HW.out).mono hsz4, HZ2, fun x hx => HT.out x (wout_mem l k x hx), hB4.trans (HB6.out.mono hsz4)⟩
          case measure => simp [intOf]
      · have HZ2 := Lib.hid (show Z = covK l k by rw [HZ.out, covK_succ l k t HK.out, hnd]; rfl)
        clear hnd
        go_wp2_with fail
        go_roundw
        case rel => exact ⟨l, k, by omega, hl2, by go_num, HRES4, HZ2, HT, hB4⟩
        case measure => simp [intOf]

end Go.Proofs.Ytknkhcaaadnaiaa
