/- Walks: a network is read. -/
import Derived.Test.YtnplaiolencgjaaDoorWz3
import Derived.Test.YtnplaiolencgjaaDoorPn
import Derived.Test.YtnplaiolencgjaaDoorWi
namespace Go.Proofs.YtnplaiolencgjaaDoor
set_option linter.unusedVariables false
set_option linter.unusedSimpArgs false
open Go.RowKit

theorem infoT33 : (Tryd.prog.info? 47).map (fun i => (i.zero, i.size, i.bytes)) = some (some (.agg (tcells 0 (fun _ => 0))), 33, 40) := by kernel_rfl

/-- The cells of a network. -/
def netRow (ts : List (List UInt8)) : List Value := ts.flatMap fun t => (tcells (lgN t.length) (tv t)).toList
/-- A network of the function's own. -/
def Net (w : World) (base : Nat) (v : Value) (ts : List (List UInt8)) : Prop := w.ownsRow base 47 33 v ts.length (netRow ts)
theorem netRow_take1 (ts : List (List UInt8)) (k : Nat) (t : List UInt8) (h : ts[k]? = some t) : netRow (ts.take (k + 1)) = netRow (ts.take k) ++ (tcells (lgN t.length) (tv t)).toList := by
  unfold netRow; rw [List.take_add_one, h, List.flatMap_append]; simp
theorem tcells_ones (n : Nat) (g : Nat → Nat) : ∀ u ∈ (tcells n g).toList, u.oneCell' = true := by
  intro u hu
  unfold tcells at hu
  simp only [List.mem_cons, List.mem_map] at hu
  rcases hu with rfl | ⟨_, _, rfl⟩ <;> rfl
theorem wOk_long (ts : List (List UInt8)) (h : 5 < ts.length) : wOk ts = false := by
  cases e : wOk ts with
  | false => rfl
  | true =>
    obtain ⟨t, r, rfl⟩ : ∃ t r, ts = t :: r := by cases ts with | nil => simp at h | cons t r => exact ⟨t, r, rfl⟩
    have h1 := List.all_eq_true.1 e t (by simp)
    obtain ⟨h2, h3⟩ := tabN_pos _ _ h1
    have := (lgN_pos _ (isTab_pos t h2).1).2.1
    omega

section
variable {ops : Array Oper} {rest : List Oper} {a : Act} {w : World} {Q : Exit → Act → World → Prop}
/-- 'xs = append(xs, t)', xs the function's own, t a table. -/
theorem wpList_pushN {d2 : Option Tmp} {ty1 ty2 : TypeId} {p1 p2 : String} {a1 a2 : Array Edge} {j : Tmp} (s x : Operand) (base n q : Nat) (v : Value) (f : Nat → Nat) (xs : List Value)
    (hx : a.eval x = .agg (tcells q f)) (hs : (a.put (some j) (.slice (some ⟨w.heap.size, 0, none⟩) 1 1)).eval s = v) (hj : (a.put (some j) (.slice (some ⟨w.heap.size, 0, none⟩) 1 1)).eval (.tmp j) = .slice (some ⟨w.heap.size, 0, none⟩) 1 1)
    (hown : w.ownsRow base 47 33 v n xs) (hb : base ≤ w.heap.size) (hn : n ≤ 65536)
    (h : ∀ v' w', w'.ownsRow base 47 33 v' (n + 1) (xs ++ (tcells q f).toList) → Below base w w' → wpList Tryd.prog ops Q rest ((a.put (some j) (.slice (some ⟨w.heap.size, 0, none⟩) 1 1)).put d2 v') w') :
    wpList Tryd.prog ops Q (⟨some j, .buildSlice 42 1 #[(0, x)], ty1, p1, a1, none⟩ :: ⟨d2, .call { callee := .builtin .append, args := #[s, .tmp j], argTypes := #[42, 42] }, ty2, p2, a2, none⟩ :: rest) a w :=
  wpList_pushT 42 47 s x base n 40 v (.agg (tcells 0 (fun _ => 0))) (tcells q f) xs Tryd.underlying42 infoT33 (tcells_size 0 (fun _ => 0)) (tcells_size q f) (tcells_ones q f) hx hs hj hown hb hn (by decide)
    (fun v' w' h1 _ _ h4 => h v' w' h1 h4)
end

set_option maxHeartbeats 1000000 in
theorem readNetworkG (s : ByteArray) (w : World) (hs : s.size ≤ 1048576) (HC : Hid (Calls Tryd.prog 51 #[.string s, .string ⟨#[44]⟩] w fun e w' => ∃ v, e = .returned v ∧ Res w' w.heap.size 9 v (textsV (cutG 44 [] s.data.toList)) ∧ Below w.heap.size w w')) :
    Calls Tryd.prog 37 #[.string s] w fun e w' => ∃ v, e = .returned (.tuple #[v, .bool (wOk (cutG 44 [] s.data.toList))]) ∧ Net w' w.heap.size v (wTexts (cutG 44 [] s.data.toList)) ∧ Below w.heap.size w w' := by
  have hlen : (cutG 44 [] s.data.toList).length ≤ s.size + 1 := cutG_length_le 44 s.data.toList []
  have HPL := Lib.hid (fun p hp => cutG_piece_le 44 s.data.toList [] p hp)
  generalize cutG 44 [] s.data.toList = ts at *
  have HPS := Lib.hid (show ∀ p ∈ ts, p.length ≤ 1048576 from fun p hp => by have := HPL.out p hp; have e : s.data.toList.length = s.size := rfl; simp at this; omega)
  have HLO := Lib.hid (wOk_long ts)
  obtain ⟨n, hn⟩ : ∃ n, ts.length = n := ⟨_, rfl⟩
  have HOK := Lib.hid (show wOk ts = ts.all (tabN n) by rw [← hn]; rfl)
  have HN := Lib.hid hn
  rw [hn] at hlen HLO
  clear hn HPL
  go_enter Tryd.func37, Tryd.ntmps37
  go_wp2_with fail
  refine HC.out.mono ?_
  rintro e w1 ⟨v, rfl, hr, hB⟩
  obtain ⟨A, c, rfl, k1, k2, ht⟩ := res_texts hr
  have HT := Lib.hid ht
  rw [HN.out] at k1 ⊢
  unfold maxLen at k2
  clear ht hr HC
  by_cases h5 : 5 < n
  · have HF := Lib.hid (HLO.out h5)
    go_wp2_with fail
    go_ret2
    exact ⟨.slice none 0 0, by rw [HF.out]; rfl, by unfold wTexts; rw [HF.out]; exact ⟨rfl, .inl ⟨rfl, rfl⟩⟩, hB⟩
  · go_wp2_with fail
    go_loopw [5, 17] (fun v j wr => ∃ k : Nat, k ≤ n ∧ j = .int .i64 k ∧ Hid ((ts.take k).all (tabN n) = true) ∧ wr.ownsRow w1.heap.size 47 33 v k (netRow (ts.take k)) ∧ Below w1.heap.size w1 wr) (fun _ j _ => n - (intOf j).toNat)
    case atStart => exact ⟨0, Nat.zero_le _, rfl, rfl, ⟨rfl, .inl ⟨rfl, rfl⟩⟩, Below.refl _ _⟩
    case round =>
      obtain ⟨k, hk, rfl, hall, hown, hB1⟩ := hrel
      by_cases hlt : k < n
      · obtain ⟨t, ht⟩ : ∃ t, ts[k]? = some t := ⟨_, List.getElem?_eq_getElem (by rw [HN.out]; exact hlt)⟩
        obtain ⟨g, rfl, hg, hcell0⟩ := HT.out k t ht
        have hcell : wr.cell? ⟨g, k, none⟩ = some (.string ⟨t.toArray⟩) := (hB1.cell (p := ⟨g, k, none⟩) (World.block_lt_of_cell? _ _ hcell0)).trans hcell0
        obtain ⟨S, hS⟩ : ∃ S : ByteArray, S = ⟨t.toArray⟩ := ⟨_, rfl⟩
        rw [← hS] at hcell
        have hSz : S.size ≤ 1048576 := by rw [hS]; exact HPS.out t (List.mem_of_getElem? ht)
        have HSL := Lib.hid (show S.data.toList = t by rw [hS])
        have HKT := Lib.hid ht
        have HX := Lib.hid (netRow_take1 ts k t ht)
        have RT := Lib.hid (fun w => readTable S w (by unfold maxLen; omega))
        rw [HSL.out] at RT
        clear hS ht hcell0
        rcases Bool.eq_false_or_eq_true (isTab t) with hi | hi
        · obtain ⟨q, hq1, hq5, hq, hlg, hz, hv⟩ := rt_yes _ hi
          rw [hv] at RT
          have h0 := tcells_zero q (tv t)
          have HTN := Lib.hid (show tabN n t = decide (q = n) by rw [tabN_is n t hi, hlg])
          have HLG := Lib.hid hlg
          clear hi hv hlg hz hq
          by_cases hqn : q = n
          · have HA := Lib.hid (show (ts.take (k + 1)).all (tabN n) = true by rw [all_take1 ts _ k t HKT.out, hall.out, HTN.out, hqn]; simp)
            have hne : ((q : Int) != (n : Int)) = false := by rw [hqn]; simp
            clear hqn hall
            go_wp2_with fail
            refine (RT.out _).mono ?_
            rintro e w3 ⟨rfl, hb3⟩
            obtain ⟨W4, hW4⟩ : ∃ W4, W4 = w3.alloc (.cells (tcells q (tv t)) 47) := ⟨_, rfl⟩
            have hown4 : W4.ownsRow w1.heap.size 47 33 u5 k (netRow (ts.take k)) := by rw [hW4]; exact (own_below hown hb3).alloc _
            have hsz4 : w1.heap.size ≤ W4.heap.size := by rw [hW4]; have := hb3.size; have := hB1.size; simp; omega
            have hbl4 : Below w1.heap.size wr W4 := by rw [hW4]; exact (hb3.alloc hb3.size _).mono hB1.size
            have hrow4 : W4.heap[w3.heap.size]? = some (.cells (tcells q (tv t)) 47 (0, 0)) := by rw [hW4]; exact heap_alloc_new _ _
            have hc4 : W4.cell? ⟨w3.heap.size, 0, none⟩ = some (.int .i64 (q : Int)) := by rw [cell_of_row _ _ _ _ _ _ hrow4]; exact h0
            have HW4 := Lib.hid hW4
            have HR4 := Lib.hid hrow4
            have HO4 := Lib.hid hown4
            clear hrow4 hown4 hown hcell hW4
            go_wp2_with (first | ((with_reducible refine wpList_alloc_row 47 _ zeroT ?_); (try simp only [Act.put, List.setIfInBounds_toArray, List.set_cons_succ, List.set_cons_zero, World.size_alloc, Nat.add_assoc, Nat.reduceAdd])) | ((with_reducible refine wpList_storeT_new 47 _ _ q _ (tv t) _ _ _ ?_ ?_ infoT ?_); (first | rfl | simp [Act.eval, Act.put]); rfl; rw [← HW4.out]; (try simp only [Act.put, List.setIfInBounds_toArray, List.set_cons_succ, List.set_cons_zero, World.size_alloc, Nat.add_assoc, Nat.reduceAdd])) | ((with_reducible refine wpList_loadT 47 _ (w3.heap.size) (q) (tv t) 47 _ ?_ ?_ Tryd.underlying47 infoT ?_); rfl; exact (HR4.out); (try simp only [Act.put, List.setIfInBounds_toArray, List.set_cons_succ, List.set_cons_zero, World.size_alloc, Nat.add_assoc, Nat.reduceAdd])) | ((with_reducible refine wpList_pushN _ _ (w1.heap.size) (k) (q) (u5) (tv t) _ ?_ ?_ ?_ (HO4.out) (hsz4) (by omega) ?_); rfl; rfl; rfl; intro v2 w2 hown2 hbel2; (try simp only [Act.put, List.setIfInBounds_toArray, List.set_cons_succ, List.set_cons_zero, World.size_alloc, Nat.add_assoc, Nat.reduceAdd])) | fail)
            go_roundw
            case rel => exact ⟨k + 1, by omega, by go_num, HA, by rw [HX.out, HLG.out]; exact hown2, hB1.trans (hbl4.trans hbel2)⟩
            case measure => simp [intOf]; omega
          · have HF := Lib.hid (show wOk ts = false by rw [HOK.out]; exact all_no ts _ k t HKT.out (by rw [HTN.out]; simpa using hqn))
            have hne : ((q : Int) != (n : Int)) = true := by rw [bne_iff_ne]; omega
            clear hqn hall
            go_wp2_with (first | (go_at_call 35; (with_reducible refine (RT.out _).mono ?_); rintro e w3 ⟨rfl, hb3⟩) | ((with_reducible refine wpList_alloc_row 47 _ zeroT ?_); (try simp only [Act.put, List.setIfInBounds_toArray, List.set_cons_succ, List.set_cons_zero, World.size_alloc, Nat.add_assoc, Nat.reduceAdd])) | ((with_reducible refine wpList_storeT_new 47 _ _ (q) _ (tv t) _ _ _ ?_ ?_ infoT ?_); (first | rfl | simp [Act.eval, Act.put]); rfl; (try simp only [Act.put, List.setIfInBounds_toArray, List.set_cons_succ, List.set_cons_zero, World.size_alloc, Nat.add_assoc, Nat.reduceAdd])) | fail)
            go_ret2
            exact ⟨.slice none 0 0, by rw [HF.out]; rfl, by unfold wTexts; rw [HF.out]; exact ⟨rfl, .inl ⟨rfl, rfl⟩⟩, (hB.trans (hB1.mono hB.size)).trans ((hb3.alloc hb3.size _).mono (Nat.le_trans hB.size hB1.size))⟩
        · rw [rt_no _ hi] at RT
          have HF := Lib.hid (show wOk ts = false by rw [HOK.out]; exact all_no ts _ k t HKT.out (tabN_bad n t hi))
          clear hi hall
          go_wp2_with (first | (go_at_call 35; (with_reducible refine (RT.out _).mono ?_); rintro e w3 ⟨rfl, hb3⟩) | ((with_reducible refine wpList_alloc_row 47 _ zeroT ?_); (try simp only [Act.put, List.setIfInBounds_toArray, List.set_cons_succ, List.set_cons_zero, World.size_alloc, Nat.add_assoc, Nat.reduceAdd])) | ((with_reducible refine wpList_storeT_new 47 _ _ (0) _ (fun _ => 0) _ _ _ ?_ ?_ infoT ?_); (first | rfl | simp [Act.eval, Act.put]); rfl; (try simp only [Act.put, List.setIfInBounds_toArray, List.set_cons_succ, List.set_cons_zero, World.size_alloc, Nat.add_assoc, Nat.reduceAdd])) | fail)
          go_ret2
          exact ⟨.slice none 0 0, by rw [HF.out]; rfl, by unfold wTexts; rw [HF.out]; exact ⟨rfl, .inl ⟨rfl, rfl⟩⟩, (hB.trans (hB1.mono hB.size)).trans ((hb3.alloc hb3.size _).mono (Nat.le_trans hB.size hB1.size))⟩
      · obtain rfl : k = n := by omega
        have e1 : ts.take k = ts := List.take_of_length_le (by rw [HN.out]; exact Nat.le_refl _)
        have HF := Lib.hid (show wOk ts = true by rw [HOK.out, ← hall.out, e1])
        have HE := Lib.hid e1
        clear e1
        go_wp2_with fail
        go_ret2
        refine ⟨_, by rw [HF.out]; rfl, ?_, hB.trans (hB1.mono hB.size)⟩
        unfold wTexts Net; rw [HF.out, if_pos rfl, HN.out]
        rw [HE.out] at hown
        exact own_mono hown hB.size

end Go.Proofs.YtnplaiolencgjaaDoor
