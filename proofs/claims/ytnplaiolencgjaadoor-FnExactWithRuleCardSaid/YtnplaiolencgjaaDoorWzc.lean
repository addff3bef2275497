/- Walks: rules, steps and fixed points, the program. -/
import Derived.Test.YtnplaiolencgjaaDoorWzb
namespace Go.Proofs.YtnplaiolencgjaaDoor
set_option linter.unusedVariables false
set_option linter.unusedSimpArgs false
open Go.RowKit

theorem ruleV_no {ts : List (List UInt8)} {i : Int} (h : swOk ts i = false) : ruleV ts i = ⟨#[]⟩ := by unfold ruleV; rw [h]; rfl
theorem ruleV_yes {ts : List (List UInt8)} {k : Nat} {t : List UInt8} (h : swOk ts k = true) (ht : ts[k]? = some t) : ruleV ts k = ⟨t.toArray⟩ := by
  unfold ruleV; rw [h, if_pos rfl, Int.toNat_natCast, List.getD, ht]; rfl
theorem txt_tab {t : List UInt8} (h : isTab t = true) : txt t.length (tv t) = t := by
  have hz := (isTab_pos t h).2
  apply List.ext_getElem?
  intro k
  unfold txt tv
  rw [List.getElem?_map]
  by_cases hk : k < t.length
  · rw [List.getElem?_range hk, List.getElem?_eq_getElem hk]
    have := (zb_iff _).1 (List.all_eq_true.1 hz t[k] (List.getElem_mem hk))
    simp only [Option.map_some, List.getD, List.getElem?_eq_getElem hk, Option.getD_some]
    congr 1
    apply UInt8.toNat_inj.1
    simp only [UInt8.toNat_ofNat']
    omega
  · rw [List.getElem?_eq_none (by simp; omega), List.getElem?_eq_none (by omega)]; rfl

theorem ruleOfI (s : ByteArray) (i : Int) (w : World) (hs : s.size ≤ 1048576) (hm : Ml w) :
    Calls Tryd.prog 18 #[.string s, .int .i64 i] w fun e w' => e = .returned (.string (ruleV (netL s) i)) ∧ Below w.heap.size w w' := by
  have O := Lib.hid (switchOfC s i w hs hm)
  generalize netL s = ts at *
  clear hm
  cases hsw : swOk ts i
  · rw [hsw] at O
    have HV := Lib.hid (ruleV_no hsw)
    clear hsw
    go_enter Tryd.func18, Tryd.ntmps18
    go_wp2_with fail
    refine O.out.mono ?_
    rintro e w1 ⟨A, c, rfl, hO⟩
    go_wp2_with fail
    go_ret
    exact ⟨ret_str HV.out.symm, hO.2.2.2.2⟩
  · obtain ⟨k, t, rfl, hk, ht, hok⟩ := swOk_switch hsw
    rw [hsw, wTexts_yes hok] at O
    have HV := Lib.hid (ruleV_yes hsw ht)
    have h5 := wOk_five hok
    have htab := (wOk_tab hok ht).1
    have hz := (isTab_pos t htab).2
    have hlg := (lgN_pos _ (isTab_pos t htab).1)
    have TX := Lib.hid (fun w => text (lgN t.length) t.length (tv t) hlg.2.1 hlg.2.2.1.symm (fun s _ => tv_le t hz s) w)
    rw [txt_tab htab] at TX
    have HT := Lib.hid ht
    obtain ⟨q, hq⟩ : ∃ q, lgN t.length = q := ⟨_, rfl⟩
    rw [hq] at TX
    have HQ := Lib.hid hq
    clear hsw hok ht htab hz hlg hq
    obtain ⟨n, hn⟩ : ∃ n, ts.length = n := ⟨_, rfl⟩
    have HN := Lib.hid hn
    rw [hn] at O h5 hk
    clear hn
    go_enter Tryd.func18, Tryd.ntmps18
    go_wp2_with fail
    refine O.out.mono ?_
    rintro e w1 ⟨A, c, rfl, hO⟩
    obtain ⟨k1, k2, _, hT, hB⟩ := hO
    rw [HN.out] at k1
    obtain ⟨g, rfl, hg, hr⟩ := hT.out k t HT.out
    rw [HQ.out] at hr
    have HR := Lib.hid hr
    clear hr
    go_wp2_with (first | ((with_reducible refine wpList_loadN _ g (k * 33) q (tv t) ?_ HR.out ?_); rfl; (try simp only [Act.put, List.setIfInBounds_toArray, List.set_cons_succ, List.set_cons_zero, World.size_alloc, Nat.add_assoc, Nat.reduceAdd])) | fail)
    refine (TX.out _).mono ?_
    rintro e w2 ⟨rfl, hb2⟩
    go_wp2_with fail
    go_ret
    exact ⟨ret_str HV.out.symm, hB.trans (hb2.mono hB.size)⟩

theorem stepAllI (s : ByteArray) (a : Int) (w : World) (hs : s.size ≤ 1048576) (hm : Ml w) :
    Calls Tryd.prog 22 #[.string s, .int .i64 a] w fun e w' => e = .returned (.int .i64 (allV (netL s) a)) ∧ Below w.heap.size w w' := by
  have O := Lib.hid (stateOfC s a w hs hm)
  generalize netL s = ts at *
  clear hm
  cases hst : stOk ts a
  · rw [hst] at O
    have HV := Lib.hid (allV_no hst)
    clear hst
    go_enter Tryd.func22, Tryd.ntmps22
    go_wp2_with fail
    refine O.out.mono ?_
    rintro e w1 ⟨A, c, rfl, hO⟩
    go_wp2_with fail
    go_ret
    exact ⟨ret_int HV.out.symm, hO.2.2.2.2⟩
  · obtain ⟨k, rfl, hk, hok⟩ := stOk_state hst
    rw [hst, wTexts_yes hok] at O
    have HV := Lib.hid (allV_yes hst)
    have ST := Lib.hid (fun A c w => stepI ts A c k w hok hk)
    clear hst hk hok
    go_enter Tryd.func22, Tryd.ntmps22
    go_wp2_with fail
    refine O.out.mono ?_
    rintro e w1 ⟨A, c, rfl, hO⟩
    have S1 := Lib.hid (ST.out A c w1 hO.1 hO.2.1 hO.2.2.2.1.out)
    go_wp2_with fail
    refine S1.out.mono ?_
    rintro e w2 ⟨rfl, hb2⟩
    go_wp2_with fail
    go_ret
    exact ⟨ret_int HV.out.symm, hO.2.2.2.2.trans (hb2.mono hO.2.2.2.2.size)⟩

theorem restlessOfI (s : ByteArray) (a : Int) (w : World) (hs : s.size ≤ 1048576) (hm : Ml w) :
    Calls Tryd.prog 24 #[.string s, .int .i64 a] w fun e w' => e = .returned (.int .i64 (restV (netL s) a)) ∧ Below w.heap.size w w' := by
  have O := Lib.hid (stateOfC s a w hs hm)
  generalize netL s = ts at *
  clear hm
  cases hst : stOk ts a
  · rw [hst] at O
    have HV := Lib.hid (restV_no hst)
    clear hst
    go_enter Tryd.func24, Tryd.ntmps24
    go_wp2_with fail
    refine O.out.mono ?_
    rintro e w1 ⟨A, c, rfl, hO⟩
    go_wp2_with fail
    go_ret
    exact ⟨ret_int HV.out.symm, hO.2.2.2.2⟩
  · obtain ⟨k, rfl, hk, hok⟩ := stOk_state hst
    rw [hst, wTexts_yes hok] at O
    have h5 := wOk_five hok
    have hp32 := pow_le32 _ h5
    have hnx := nextN_lt hok k hk
    have HV := Lib.hid (restV_yes hst)
    have HX := Lib.hid (xorN (nextN ts k) k (by omega) (by omega))
    have ST := Lib.hid (fun A c w => stepI ts A c k w hok hk)
    generalize nextN ts k = N at *
    clear hst hk hok hp32 hnx
    go_enter Tryd.func24, Tryd.ntmps24
    go_wp2_with fail
    refine O.out.mono ?_
    rintro e w1 ⟨A, c, rfl, hO⟩
    have S1 := Lib.hid (ST.out A c w1 hO.1 hO.2.1 hO.2.2.2.1.out)
    go_wp2_with fail
    refine S1.out.mono ?_
    rintro e w2 ⟨rfl, hb2⟩
    go_wp2_with fail
    go_ret
    exact ⟨ret_int (by rw [HV.out]; exact HX.out), hO.2.2.2.2.trans (hb2.mono hO.2.2.2.2.size)⟩

theorem netStepOneI (ts : List (List UInt8)) (A : Option Addr) (c s i : Nat) (w : World) (hok : wOk ts = true) (hs : s < 2 ^ ts.length) (hi : i < ts.length) (k1 : ts.length ≤ c) (k2 : c ≤ 9223372036854775807) (hT : Tabs w A ts) :
    Calls Tryd.prog 42 #[.slice A ts.length c, .int .i64 (s : Int), .int .i64 (i : Int)] w fun e w' => e = .returned (.int .i64 ((holdN s i (wv ts i s) : Nat) : Int)) ∧ Below w.heap.size w w' := by
  have h5 := wOk_five hok
  have hp32 := pow_le32 _ h5
  have hs32 : s < 32 := by omega
  obtain ⟨t, ht⟩ : ∃ t, ts[i]? = some t := ⟨_, List.getElem?_eq_getElem hi⟩
  obtain ⟨g, rfl, hg, hr⟩ := hT i t ht
  have hcell : w.cell? ⟨g, i * 33 + 1 + s, none⟩ = some (.int .u8 ((tv t s : Nat) : Int)) := by
    rw [Nat.add_assoc]
    exact hr (1 + s) _ (by rw [Array.getElem?_toList]; exact tcells_succ _ _ _ hs32)
  rw [← wv_at ht s] at hcell
  have hu := wv_le hok i s
  have HO := Lib.hid (fun w => holdI s i ((wv ts i s : Nat) : Int) w hs32 (by omega) (Int.natCast_nonneg _) (by omega))
  rw [Int.toNat_natCast] at HO
  generalize wv ts i s = u at *
  obtain ⟨n, hn⟩ : ∃ n, ts.length = n := ⟨_, rfl⟩
  rw [hn] at h5 hi k1 ⊢
  clear hok hs hp32 hT ht hr hn
  go_enter Tryd.func42, Tryd.ntmps42
  go_wp2_with fail
  refine (HO.out _).mono ?_
  rintro e w2 ⟨rfl, hw2⟩
  have HB := Lib.hid (below_draws hw2)
  clear hw2
  go_wp2_with fail
  go_ret
  exact ⟨rfl, HB.out⟩

theorem stepOneI (s : ByteArray) (a i : Int) (w : World) (hs : s.size ≤ 1048576) (hm : Ml w) :
    Calls Tryd.prog 20 #[.string s, .int .i64 a, .int .i64 i] w fun e w' => e = .returned (.int .i64 (oneV (netL s) a i)) ∧ Below w.heap.size w w' := by
  have O := Lib.hid (stateOfC s a w hs hm)
  generalize netL s = ts at *
  clear hm
  cases hst : stOk ts a
  · rw [hst] at O
    have HV := Lib.hid (oneV_no (i := i) hst)
    clear hst
    go_enter Tryd.func20, Tryd.ntmps20
    go_wp2_with fail
    refine O.out.mono ?_
    rintro e w1 ⟨A, c, rfl, hO⟩
    go_wp2_with fail
    go_ret
    exact ⟨ret_int HV.out.symm, hO.2.2.2.2⟩
  · obtain ⟨k, rfl, hk, hok⟩ := stOk_state hst
    rw [hst, wTexts_yes hok] at O
    have h5 := wOk_five hok
    by_cases h0 : i < 0
    · have HV := Lib.hid (oneV_far (ts := ts) (a := k) (i := i) (by simp; omega))
      clear hst hk hok
      go_enter Tryd.func20, Tryd.ntmps20
      go_wp2_with fail
      refine O.out.mono ?_
      rintro e w1 ⟨A, c, rfl, hO⟩
      go_wp2_with fail
      go_ret
      exact ⟨ret_int HV.out.symm, hO.2.2.2.2⟩
    · by_cases h1 : (ts.length : Int) ≤ i
      · have HV := Lib.hid (oneV_far (ts := ts) (a := k) (i := i) (by simp; omega))
        clear hst hk hok
        go_enter Tryd.func20, Tryd.ntmps20
        go_wp2_with fail
        refine O.out.mono ?_
        rintro e w1 ⟨A, c, rfl, hO⟩
        go_wp2_with fail
        go_ret
        exact ⟨ret_int HV.out.symm, hO.2.2.2.2⟩
      · obtain ⟨j, rfl⟩ : ∃ j : Nat, i = j := ⟨i.toNat, by omega⟩
        have hj : j < ts.length := by omega
        have HV := Lib.hid (oneV_yes hst hj)
        have ST := Lib.hid (fun A c w => netStepOneI ts A c k j w hok hk hj)
        clear hst hk hok
        go_enter Tryd.func20, Tryd.ntmps20
        go_wp2_with fail
        refine O.out.mono ?_
        rintro e w1 ⟨A, c, rfl, hO⟩
        have S1 := Lib.hid (ST.out A c w1 hO.1 hO.2.1 hO.2.2.2.1.out)
        go_wp2_with fail
        refine S1.out.mono ?_
        rintro e w2 ⟨rfl, hb2⟩
        go_wp2_with fail
        go_ret
        exact ⟨ret_int HV.out.symm, hO.2.2.2.2.trans (hb2.mono hO.2.2.2.2.size)⟩

theorem fixedI (ts : List (List UInt8)) (A : Option Addr) (c : Nat) (w : World) (hok : wOk ts = true) (k1 : ts.length ≤ c) (k2 : c ≤ 9223372036854775807) (hT : Tabs w A ts) :
    Calls Tryd.prog 45 #[.slice A ts.length c] w fun e w' => (∃ v, e = .returned v ∧ Res w' w.heap.size 3 v (natsV (fixK ts (2 ^ ts.length)))) ∧ Below w.heap.size w w' := by
  have h5 := wOk_five hok
  have hp32 := pow_le32 _ h5
  have ST := Lib.hid (fun k w (hk : k < 2 ^ ts.length) (h : Tabs w A ts) => stepI ts A c k w hok hk k1 k2 h)
  have SS := Lib.hid (fun w => statesI A ts.length c w h5)
  have HT := Lib.hid hT
  have FX9 := Lib.hid (fixK_succ ts)
  have FL := Lib.hid (fixK_len ts)
  generalize 2 ^ ts.length = M at *
  clear hok hT
  go_enter Tryd.func45, Tryd.ntmps45
  go_wp2_with (first | (go_at_call 56; (with_reducible refine (SS.out _).mono ?_); rintro e w3 ⟨rfl, rfl⟩) | fail)
  go_loopw [3, 7] (fun v j wr => ∃ k : Nat, k ≤ M ∧ j = .int .i64 k ∧ wr.ownsRow w.heap.size 3 1 v (fixK ts k).length (natsV (fixK ts k)) ∧ Below w.heap.size w wr) (fun _ j _ => M - (intOf j).toNat)
  case atStart => exact ⟨0, Nat.zero_le _, rfl, ⟨rfl, .inl ⟨rfl, rfl⟩⟩, Below.refl _ _⟩
  case round =>
    obtain ⟨k, hk, rfl, hown, hB⟩ := hrel
    by_cases hlt : k < M
    · have hml := FL.out k
      have hlen : (fixK ts k).length ≤ 65536 := by omega
      have MS := Lib.hid (FX9.out k)
      have S1 := Lib.hid (ST.out k wr hlt (HT.out.keep hB))
      cases hfx : nextN ts k == k
      · rw [hfx] at MS
        have hne : ((nextN ts k : Int) == (k : Int)) = false := by simp at hfx ⊢; omega
        generalize nextN ts k = N at *
        clear hfx
        go_wp2_with fail
        refine S1.out.mono ?_
        rintro e w4 ⟨rfl, hb4⟩
        have hown4 := own_below hown hb4
        have hB4 := hB.trans (hb4.mono hB.size)
        clear hown hB hb4
        go_wp2_with fail
        go_roundw
        case rel => exact ⟨k + 1, by omega, by go_num, by rw [MS.out]; simpa using hown4, hB4⟩
        case measure => simp [intOf]; omega
      · rw [hfx] at MS
        have hNk : nextN ts k = k := by simpa using hfx
        rw [hNk] at S1
        clear hfx hNk
        go_wp2_with fail
        refine S1.out.mono ?_
        rintro e w4 ⟨rfl, hb4⟩
        have hown4 := own_below hown hb4
        have hB4 := hB.trans (hb4.mono hB.size)
        clear hown hB hb4
        go_wp2_with (first | ((with_reducible refine wpList_push 32 3 _ _ (w.heap.size) ((fixK ts k).length) 8 (u3) (.int .i64 (k : Int)) (.int .i64 0) (_) Tryd.underlying32 infoI rfl rfl rfl ?_ ?_ ?_ (hown4) (hB4.size) (hlen) (by decide) ?_); rfl; rfl; rfl; intro v2 w2 hown2 hg2 hat2 hbel2; (try simp only [Act.put, List.setIfInBounds_toArray, List.set_cons_succ, List.set_cons_zero, World.size_alloc, Nat.add_assoc, Nat.reduceAdd])) | fail)
        go_roundw
        case rel => exact ⟨k + 1, by omega, by go_num, by rw [MS.out, if_pos trivial, List.length_append]; simpa [natsV] using hown2, below_grown hB4 hbel2 (Nat.le_refl _)⟩
        case measure => simp [intOf]; omega
    · obtain rfl : k = M := by omega
      go_wp2_with fail
      go_ret
      exact ⟨⟨_, rfl, Res.of_own hown⟩, hB⟩

theorem fixedPointsI (s : ByteArray) (w : World) (hs : s.size ≤ 1048576) (hm : Ml w) :
    Calls Tryd.prog 26 #[.string s] w fun e w' => (∃ v, e = .returned v ∧ Res w' w.heap.size 3 v (natsV (fixL (netL s)))) ∧ Below w.heap.size w w' := by
  have O := Lib.hid (readNetworkC s w hs hm)
  generalize netL s = ts at *
  clear hm
  cases hok : wOk ts
  · rw [wTexts_no hok, hok] at O
    rw [fixL_no hok]
    clear hok
    go_enter Tryd.func26, Tryd.ntmps26
    go_wp2_with fail
    refine O.out.mono ?_
    rintro e w1 ⟨A, c, rfl, hO⟩
    go_wp2_with fail
    go_ret
    exact ⟨⟨_, rfl, Res.none_ _ _ _⟩, hO.2.2.2.2⟩
  · rw [wTexts_yes hok, hok] at O
    have HF := Lib.hid (fixL_yes hok)
    have FX := Lib.hid (fun A c w => fixedI ts A c w hok)
    clear hok
    generalize 2 ^ ts.length = M at *
    go_enter Tryd.func26, Tryd.ntmps26
    go_wp2_with fail
    refine O.out.mono ?_
    rintro e w1 ⟨A, c, rfl, hO⟩
    have S1 := Lib.hid (FX.out A c w1 hO.1 hO.2.1 hO.2.2.2.1.out)
    have hB := hO.2.2.2.2
    go_wp2_with fail
    refine S1.out.mono ?_
    rintro e w2 ⟨⟨v, rfl, hr⟩, hb2⟩
    go_wp2_with fail
    go_ret
    exact ⟨⟨_, rfl, by rw [HF.out]; exact hr.mono hB.size⟩, hB.trans (hb2.mono hB.size)⟩

end Go.Proofs.YtnplaiolencgjaaDoor
