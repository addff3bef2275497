/- Walks: another rule of a switch, the program. -/
import Derived.Test.YtnplaiolencgjaaDoorWzx
namespace Go.Proofs.YtnplaiolencgjaaDoor
set_option linter.unusedVariables false
set_option linter.unusedSimpArgs false
open Go.RowKit

/-- The cells of a network of the function's own may be written. -/
theorem net_there {w : World} {base : Nat} {A : Option Addr} {n c : Nat} {ts : List (List UInt8)} (h : Net w base (.slice A n c) ts) (hn : ts.length = n) (k : Nat) (hk : k < n) : ∃ g, A = some ⟨g, 0, none⟩ ∧ base ≤ g ∧ g < w.heap.size ∧ w.there g (k * 33) 33 := by
  rcases h.2 with ⟨e, h0⟩ | ⟨g, cap, cur, e, hb, hg, hle, hc, hs, ht⟩
  · omega
  · simp only [Value.slice.injEq] at e
    obtain ⟨rfl, -, -⟩ := e
    refine ⟨g, rfl, hb, lt_of_block hg, fun j hj => ⟨?_, frozen_of_row _ _ _ _ _ hg⟩⟩
    have hlt : k * 33 + j < cur.size := by rw [hs]; have : (k + 1) * 33 ≤ cap * 33 := Nat.mul_le_mul_right 33 (by omega); omega
    rw [cell_of_row _ _ _ _ _ _ hg, Array.getElem?_eq_getElem hlt]; rfl
theorem there_below {w w' : World} {g o m : Nat} (h : w.there g o m) (hg : g < w.heap.size) (hb : Below w.heap.size w w') : w'.there g o m := fun j hj => by
  obtain ⟨h1, h2⟩ := h j hj
  exact ⟨by rw [hb.cell (p := ⟨g, o + j, none⟩) hg]; exact h1, by rw [hb.frozen (p := ⟨g, o + j, none⟩) hg]; exact h2⟩
/-- The tables behind a store of one. -/
theorem tabs_set {w : World} {g : Nat} {ts : List (List UInt8)} (k : Nat) (f : List UInt8) (h : Tabs w (some ⟨g, 0, none⟩) ts) (ht : w.there g (k * 33) 33) (hg : g < w.heap.size) :
    Tabs (w.setCells g (k * 33) (tcells (lgN f.length) (tv f)).toList) (some ⟨g, 0, none⟩) (ts.set k f) := by
  have hl : ∀ t : List UInt8, (tcells (lgN t.length) (tv t)).toList.length = 33 := fun t => tcells_size _ _
  have hsz : ∀ (vs : List Value) (o : Nat) (w : World), (w.setCells g o vs).heap.size = w.heap.size := by
    intro vs
    induction vs with
    | nil => intro o w; rfl
    | cons v vs ih => intro o w; exact (ih (o + 1) _).trans (by simp [World.setCell])
  intro j t hj
  rw [List.getElem?_set] at hj
  refine ⟨g, rfl, by rw [hsz]; exact hg, ?_⟩
  by_cases e : k = j
  · subst e
    rw [if_pos rfl] at hj
    split at hj
    · cases hj
      exact World.rangeAt_setCells_same _ _ _ _ (by rw [hl]; exact ht)
    · cases hj
  · rw [if_neg e] at hj
    obtain ⟨g2, e2, _, hr⟩ := h j t hj
    cases e2
    refine World.rangeAt_setCells_apart hr _ _ _ (.inr ?_)
    rw [hl, hl]
    rcases Nat.lt_or_gt_of_ne e with h1 | h1
    · right; have : (k + 1) * 33 ≤ j * 33 := Nat.mul_le_mul_right 33 h1; omega
    · left; have : (j + 1) * 33 ≤ k * 33 := Nat.mul_le_mul_right 33 h1; omega

set_option maxHeartbeats 1000000 in
theorem withRuleI (s : ByteArray) (i : Int) (f : ByteArray) (w : World) (hs : s.size ≤ 1048576) (hf : f.size ≤ 1048576) (hm : Ml w) :
    Calls Tryd.prog 12 #[.string s, .int .i64 i, .string f] w fun e w' => e = .returned (wrV (netL s) i f.data.toList) ∧ Below w.heap.size w w' := by
  have O := Lib.hid (switchOfC s i w hs hm)
  generalize netL s = ts at *
  clear hm
  have RT := Lib.hid (fun w => readTable f w (by unfold maxLen; omega))
  cases hsw : swOk ts i
  · rw [hsw] at O
    have HV := Lib.hid (wrV_no (wrOk_sw (f := f.data.toList) hsw))
    clear hsw
    rcases Bool.eq_false_or_eq_true (isTab f.data.toList) with hi | hi
    · obtain ⟨q, hq1, hq5, hq, hlg, hz, hv⟩ := rt_yes _ hi
      rw [hv] at RT
      clear hi hv hlg hz hq
      go_enter Tryd.func12, Tryd.ntmps12
      go_wp2_with fail
      refine O.out.mono ?_
      rintro e w1 ⟨A, c, rfl, hO⟩
      have HB := Lib.hid hO.2.2.2.2
      clear hO
      go_wp2_with fail
      refine (RT.out _).mono ?_
      rintro e w3 ⟨rfl, hb3⟩
      go_wp2_with (first | ((with_reducible refine wpList_alloc_row 47 _ zeroT ?_); (try simp only [Act.put, List.setIfInBounds_toArray, List.set_cons_succ, List.set_cons_zero, World.size_alloc, Nat.add_assoc, Nat.reduceAdd])) | ((with_reducible refine wpList_storeT_new 47 _ _ (q) _ (tv f.data.toList) _ _ _ ?_ ?_ infoT ?_); (first | rfl | simp [Act.eval, Act.put]); rfl; (try simp only [Act.put, List.setIfInBounds_toArray, List.set_cons_succ, List.set_cons_zero, World.size_alloc, Nat.add_assoc, Nat.reduceAdd])) | fail)
      go_ret2
      exact ⟨by rw [HV.out]; rfl, HB.out.trans ((hb3.alloc hb3.size _).mono HB.out.size)⟩
    · rw [rt_no _ hi] at RT
      clear hi
      go_enter Tryd.func12, Tryd.ntmps12
      go_wp2_with fail
      refine O.out.mono ?_
      rintro e w1 ⟨A, c, rfl, hO⟩
      have HB := Lib.hid hO.2.2.2.2
      clear hO
      go_wp2_with fail
      refine (RT.out _).mono ?_
      rintro e w3 ⟨rfl, hb3⟩
      go_wp2_with (first | ((with_reducible refine wpList_alloc_row 47 _ zeroT ?_); (try simp only [Act.put, List.setIfInBounds_toArray, List.set_cons_succ, List.set_cons_zero, World.size_alloc, Nat.add_assoc, Nat.reduceAdd])) | ((with_reducible refine wpList_storeT_new 47 _ _ (0) _ (fun _ => 0) _ _ _ ?_ ?_ infoT ?_); (first | rfl | simp [Act.eval, Act.put]); rfl; (try simp only [Act.put, List.setIfInBounds_toArray, List.set_cons_succ, List.set_cons_zero, World.size_alloc, Nat.add_assoc, Nat.reduceAdd])) | fail)
      go_ret2
      exact ⟨by rw [HV.out]; rfl, HB.out.trans ((hb3.alloc hb3.size _).mono HB.out.size)⟩
  · rcases Bool.eq_false_or_eq_true (isTab f.data.toList) with hi | hi
    · obtain ⟨q, hq1, hq5, hq, hlg, hz, hv⟩ := rt_yes _ hi
      rw [hv] at RT
      have hwr := wrOk_is hsw hi
      rw [hlg] at hwr
      obtain ⟨k, t, rfl, hk, ht, hok⟩ := swOk_switch hsw
      rw [hsw, wTexts_yes hok] at O
      have h5 := wOk_five hok
      have h0 := tcells_zero q (tv f.data.toList)
      by_cases hqn : q = ts.length
      · have hok2 : wrOk ts k f.data.toList = true := by rw [hwr]; simpa using hqn
        have HV := Lib.hid (wrV_yes hok2)
        have hset := wOk_set k hok (f := f.data.toList) (by rw [tabN_is _ _ hi, hlg]; simpa using hqn)
        have NT := Lib.hid (fun A c w h1 h2 h3 => netTextI (ts.set k f.data.toList) A c w hset (by rw [List.length_set]; omega) h1 h2 h3)
        have HTS := Lib.hid (fun (w : World) (g : Nat) h1 h2 h3 => tabs_set (w := w) (g := g) (ts := ts) k f.data.toList h1 h2 h3)
        rw [hlg] at HTS
        rw [List.length_set] at NT
        obtain ⟨n, hn⟩ : ∃ n, ts.length = n := ⟨_, rfl⟩
        have HN := Lib.hid hn
        rw [hn] at O hk h5 hqn NT
        have hne : ((q : Int) != (n : Int)) = false := by rw [hqn]; simp
        clear hi hv hlg hz hq hwr hok2 hset hsw ht hok hqn hn
        go_enter Tryd.func12, Tryd.ntmps12
        go_wp2_with fail
        refine O.out.mono ?_
        rintro e w1 ⟨A, c, rfl, hO⟩
        obtain ⟨k1, k2, hN, hT, hB⟩ := hO
        rw [HN.out] at k1 hN
        obtain ⟨g, rfl, hgb, hgl, hth⟩ := net_there hN.out HN.out k hk
        have HB := Lib.hid hB
        have HTH := Lib.hid hth
        clear hB hth hN
        go_wp2_with fail
        refine (RT.out _).mono ?_
        rintro e w3 ⟨rfl, hb3⟩
        obtain ⟨W4, hW4⟩ : ∃ W4, W4 = w3.alloc (.cells (tcells q (tv f.data.toList)) 47) := ⟨_, rfl⟩
        have HR4 := Lib.hid (show W4.heap[w3.heap.size]? = some (.cells (tcells q (tv f.data.toList)) 47 (0, 0)) by rw [hW4]; exact heap_alloc_new _ _)
        have hb4 : Below w1.heap.size w1 W4 := by rw [hW4]; exact hb3.alloc hb3.size _
        have HT4 := Lib.hid (there_below HTH.out hgl hb4)
        have hgl4 : g < W4.heap.size := Nat.lt_of_lt_of_le hgl hb4.size
        have HTB := Lib.hid (HTS.out W4 g (hT.out.keep hb4) HT4.out hgl4)
        have HB5 := Lib.hid (below_setCells hgb (tcells q (tv f.data.toList)).toList (k * 33) W4 (HB.out.trans (hb4.mono HB.out.size)))
        have hc4 : W4.cell? ⟨w3.heap.size, 0, none⟩ = some (.int .i64 (q : Int)) := by rw [cell_of_row _ _ _ _ _ _ HR4.out]; exact h0
        have HW4 := Lib.hid hW4
        clear hb3 hb4 hT hW4 hgl4
        go_wp2_with (first | ((with_reducible refine wpList_alloc_row 47 _ zeroT ?_); (try simp only [Act.put, List.setIfInBounds_toArray, List.set_cons_succ, List.set_cons_zero, World.size_alloc, Nat.add_assoc, Nat.reduceAdd])) | ((with_reducible refine wpList_storeT_new 47 _ _ q _ (tv f.data.toList) _ _ _ ?_ ?_ infoT ?_); (first | rfl | simp [Act.eval, Act.put]); rfl; rw [← HW4.out]; (try simp only [Act.put, List.setIfInBounds_toArray, List.set_cons_succ, List.set_cons_zero, World.size_alloc, Nat.add_assoc, Nat.reduceAdd])) | ((with_reducible refine wpList_loadT 47 _ (w3.heap.size) (q) (tv f.data.toList) 47 _ ?_ ?_ Tryd.underlying47 infoT ?_); rfl; exact (HR4.out); (try simp only [Act.put, List.setIfInBounds_toArray, List.set_cons_succ, List.set_cons_zero, World.size_alloc, Nat.add_assoc, Nat.reduceAdd])) | ((with_reducible refine wpList_storeN _ _ g (k * 33) q (tv f.data.toList) ?_ ?_ HT4.out ?_); rfl; rfl; (try simp only [Act.put, List.setIfInBounds_toArray, List.set_cons_succ, List.set_cons_zero, World.size_alloc, Nat.add_assoc, Nat.reduceAdd])) | fail)
        refine (NT.out _ _ _ k1 k2 HTB.out).mono ?_
        rintro e w6 ⟨rfl, hb6⟩
        have HB6 := Lib.hid (HB5.out.trans (hb6.mono HB5.out.size))
        clear hb6
        go_wp2_with fail
        go_ret2
        exact ⟨by rw [HV.out]; rfl, HB6.out⟩
      · have HV := Lib.hid (wrV_no (ts := ts) (i := k) (f := f.data.toList) (by rw [hwr]; simpa using hqn))
        have hne : ((q : Int) != (ts.length : Int)) = true := by rw [bne_iff_ne]; omega
        clear hi hv hlg hz hq hwr hsw ht hok hqn
        go_enter Tryd.func12, Tryd.ntmps12
        go_wp2_with fail
        refine O.out.mono ?_
        rintro e w1 ⟨A, c, rfl, hO⟩
        have HB := Lib.hid hO.2.2.2.2
        clear hO
        go_wp2_with fail
        refine (RT.out _).mono ?_
        rintro e w3 ⟨rfl, hb3⟩
        go_wp2_with (first | ((with_reducible refine wpList_alloc_row 47 _ zeroT ?_); (try simp only [Act.put, List.setIfInBounds_toArray, List.set_cons_succ, List.set_cons_zero, World.size_alloc, Nat.add_assoc, Nat.reduceAdd])) | ((with_reducible refine wpList_storeT_new 47 _ _ (q) _ (tv f.data.toList) _ _ _ ?_ ?_ infoT ?_); (first | rfl | simp [Act.eval, Act.put]); rfl; (try simp only [Act.put, List.setIfInBounds_toArray, List.set_cons_succ, List.set_cons_zero, World.size_alloc, Nat.add_assoc, Nat.reduceAdd])) | fail)
        go_ret2
        exact ⟨by rw [HV.out]; rfl, HB.out.trans ((hb3.alloc hb3.size _).mono HB.out.size)⟩
    · have HV := Lib.hid (wrV_no (wrOk_tab (ts := ts) (i := i) hi))
      obtain ⟨k, t, rfl, hk, ht, hok⟩ := swOk_switch hsw
      rw [hsw, wTexts_yes hok] at O
      have h5 := wOk_five hok
      rw [rt_no _ hi] at RT
      clear hi hsw ht hok
      go_enter Tryd.func12, Tryd.ntmps12
      go_wp2_with fail
      refine O.out.mono ?_
      rintro e w1 ⟨A, c, rfl, hO⟩
      have HB := Lib.hid hO.2.2.2.2
      clear hO
      go_wp2_with fail
      refine (RT.out _).mono ?_
      rintro e w3 ⟨rfl, hb3⟩
      go_wp2_with (first | ((with_reducible refine wpList_alloc_row 47 _ zeroT ?_); (try simp only [Act.put, List.setIfInBounds_toArray, List.set_cons_succ, List.set_cons_zero, World.size_alloc, Nat.add_assoc, Nat.reduceAdd])) | ((with_reducible refine wpList_storeT_new 47 _ _ (0) _ (fun _ => 0) _ _ _ ?_ ?_ infoT ?_); (first | rfl | simp [Act.eval, Act.put]); rfl; (try simp only [Act.put, List.setIfInBounds_toArray, List.set_cons_succ, List.set_cons_zero, World.size_alloc, Nat.add_assoc, Nat.reduceAdd])) | fail)
      go_ret2
      exact ⟨by rw [HV.out]; rfl, HB.out.trans ((hb3.alloc hb3.size _).mono HB.out.size)⟩

end Go.Proofs.YtnplaiolencgjaaDoor
