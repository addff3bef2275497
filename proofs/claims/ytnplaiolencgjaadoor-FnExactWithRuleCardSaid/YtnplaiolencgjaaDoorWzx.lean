/- Walks: another rule of a switch, the program. -/
import Derived.Test.YtnplaiolencgjaaDoorWzw
import Derived.Test.YtnplaiolencgjaaDoorWzc
namespace Go.Proofs.YtnplaiolencgjaaDoor
set_option linter.unusedVariables false
set_option linter.unusedSimpArgs false
open Go.RowKit

section
variable {ops : Array Oper} {rest : List Oper} {a : Act} {w : World} {Q : Exit → Act → World → Prop}
/-- A table is stored into a network. -/
theorem wpList_storeN {dst : Option Tmp} {ty0 : TypeId} {pos : String} {aft : Array Edge} (x y : Operand) (g o n : Nat) (f : Nat → Nat)
    (hx : a.eval x = .pointer (some ⟨g, o, none⟩)) (hy : a.eval y = .agg (tcells n f)) (ht : w.there g o 33)
    (h : wpList Tryd.prog ops Q rest (a.put dst undef) (w.setCells g o (tcells n f).toList)) : wpList Tryd.prog ops Q (⟨dst, .store 47 x y, ty0, pos, aft, none⟩ :: rest) a w :=
  wpList_store_mid rfl 47 x y rfl g o (tcells n f) hx hy (by rw [tcells_size]; exact ht) (by rw [tcells_size]; exact infoT) (tcells_one n f) h
end

theorem below_setCells {B : Nat} {a : World} {g : Nat} (hg : B ≤ g) : ∀ (vs : List Value) (o : Nat) (w : World), Below B a w → Below B a (w.setCells g o vs)
  | [], _, _, h => h
  | v :: vs, o, w, h => below_setCells hg vs (o + 1) _ (h.setCell (p := ⟨g, o, none⟩) hg v)

theorem texts_snoc (xs : List (List UInt8)) (k : Nat) (t : List UInt8) (h : xs[k]? = some t) : textsV (xs.take (k + 1)) = textsV (xs.take k) ++ [.string ⟨t.toArray⟩] := by
  rw [List.take_add_one, h]; simp [textsV]

theorem netTextI (xs : List (List UInt8)) (A : Option Addr) (c : Nat) (w : World) (hok : wOk xs = true) (hpos : 0 < xs.length) (k1 : xs.length ≤ c) (k2 : c ≤ 9223372036854775807) (hT : Tabs w A xs) :
    Calls Tryd.prog 36 #[.slice A xs.length c] w fun e w' => e = .returned (.string ⟨(joinL xs).toArray⟩) ∧ Below w.heap.size w w' := by
  have h5 := wOk_five hok
  have HT := Lib.hid hT
  have H32 := Lib.hid (wOk_32 hok)
  have TX := Lib.hid (fun (k : Nat) (t : List UInt8) (ht : xs[k]? = some t) (w : World) => by
    have htab := (wOk_tab hok ht).1
    have hlg := lgN_pos _ (isTab_pos t htab).1
    have := text (lgN t.length) t.length (tv t) hlg.2.1 hlg.2.2.1.symm (fun s _ => tv_le t (isTab_pos t htab).2 s) w
    rw [txt_tab htab] at this
    exact this)
  obtain ⟨n, hn⟩ : ∃ n, xs.length = n := ⟨_, rfl⟩
  rw [hn] at k1 h5 hpos ⊢
  have HN := Lib.hid hn
  clear hn hok hT
  go_enter Tryd.func36, Tryd.ntmps36
  go_wp2_with fail
  go_loopw [3, 8] (fun v j wr => ∃ k : Nat, k ≤ n ∧ j = .int .i64 k ∧ wr.ownsRow w.heap.size 9 1 v k (textsV (xs.take k)) ∧ Below w.heap.size w wr) (fun _ j _ => n - (intOf j).toNat)
  case atStart => exact ⟨0, Nat.zero_le _, rfl, ⟨rfl, .inl ⟨rfl, rfl⟩⟩, Below.refl _ _⟩
  case round =>
    obtain ⟨k, hk, rfl, hown, hB⟩ := hrel
    by_cases hlt : k < n
    · obtain ⟨t, ht⟩ : ∃ t, xs[k]? = some t := ⟨_, List.getElem?_eq_getElem (by rw [HN.out]; exact hlt)⟩
      obtain ⟨g, rfl, hg, hr⟩ := HT.out.keep hB k t ht
      have TK := Lib.hid (TX.out k t ht)
      have HX := Lib.hid (texts_snoc xs k t ht)
      obtain ⟨q, hq⟩ : ∃ q, lgN t.length = q := ⟨_, rfl⟩
      rw [hq] at TK hr
      have HR := Lib.hid hr
      obtain ⟨W4, hW4⟩ : ∃ W4, W4 = wr.alloc (.cells (tcells q (tv t)) 47) := ⟨_, rfl⟩
      have HR4 := Lib.hid (show W4.heap[wr.heap.size]? = some (.cells (tcells q (tv t)) 47 (0, 0)) by rw [hW4]; exact heap_alloc_new _ _)
      have hb4 : Below wr.heap.size wr W4 := by rw [hW4]; exact (Below.refl _ _).alloc (Nat.le_refl _) _
      have HO4 := Lib.hid (own_below hown hb4)
      have HB4 := Lib.hid (hB.trans (hb4.mono hB.size))
      have HW4 := Lib.hid hW4
      clear ht hr hq hown hB hb4 hW4
      go_wp2_with (first | ((with_reducible refine wpList_loadN _ g (k * 33) q (tv t) ?_ HR.out ?_); rfl; (try simp only [Act.put, List.setIfInBounds_toArray, List.set_cons_succ, List.set_cons_zero, World.size_alloc, Nat.add_assoc, Nat.reduceAdd])) | ((with_reducible refine wpList_alloc_row 47 _ zeroT ?_); (try simp only [Act.put, List.setIfInBounds_toArray, List.set_cons_succ, List.set_cons_zero, World.size_alloc, Nat.add_assoc, Nat.reduceAdd])) | ((with_reducible refine wpList_storeT_new 47 _ _ q _ (tv t) _ _ _ ?_ ?_ infoT ?_); (first | rfl | simp [Act.eval, Act.put]); rfl; rw [← HW4.out]; (try simp only [Act.put, List.setIfInBounds_toArray, List.set_cons_succ, List.set_cons_zero, World.size_alloc, Nat.add_assoc, Nat.reduceAdd])) | ((with_reducible refine wpList_loadT 47 _ (wr.heap.size) (q) (tv t) 47 _ ?_ ?_ Tryd.underlying47 infoT ?_); rfl; exact (HR4.out); (try simp only [Act.put, List.setIfInBounds_toArray, List.set_cons_succ, List.set_cons_zero, World.size_alloc, Nat.add_assoc, Nat.reduceAdd])) | fail)
      refine (TK.out _).mono ?_
      rintro e w5 ⟨rfl, hb5⟩
      have hown5 := own_below HO4.out hb5
      have hB5 := HB4.out.trans (hb5.mono HB4.out.size)
      have hsz5 := hB5.size
      clear hb5
      go_wp2_with (first | ((with_reducible refine wpList_push 36 9 _ _ (w.heap.size) (k) 16 (u3) (.string ⟨t.toArray⟩) (.string ⟨#[]⟩) (_) Tryd.underlying36 infoS rfl rfl rfl ?_ ?_ ?_ (hown5) (hsz5) (by omega) (by decide) ?_); rfl; rfl; rfl; intro v2 w2 hown2 hg2 hat2 hbel2; (try simp only [Act.put, List.setIfInBounds_toArray, List.set_cons_succ, List.set_cons_zero, World.size_alloc, Nat.add_assoc, Nat.reduceAdd])) | fail)
      go_roundw
      case rel => exact ⟨k + 1, by omega, by go_num, by rw [HX.out]; exact hown2, below_grown hB5 hbel2 (Nat.le_refl _)⟩
      case measure => simp [intOf]; omega
    · obtain rfl : k = n := by omega
      rw [List.take_of_length_le (by rw [HN.out]; exact Nat.le_refl _)] at hown
      obtain ⟨g, cap, cur, hv, hgb, hheap, hkc, hcm, hcs, htake⟩ : ∃ g cap cur, u3 = .slice (some ⟨g, 0, none⟩) k cap ∧ w.heap.size ≤ g ∧ wr.heap[g]? = some (.cells cur 9 (0, 0)) ∧ k ≤ cap ∧ cap ≤ maxLen ∧ cur.size = cap * 1 ∧ cur.toList.take (k * 1) = textsV xs := by
        rcases hown.2 with ⟨_, h2⟩ | ⟨g, cap, cur, h⟩
        · omega
        · exact ⟨g, cap, cur, h⟩
      subst hv
      have hcell := Lib.hid (show ∀ (j : Nat) x, xs[j]? = some x → wr.cell? ⟨g, j, none⟩ = some (.string ⟨x.toArray⟩) from fun j x hx => by
        have h1 := hown.cellAt j (by rw [Nat.mul_one, ← HN.out]; exact (List.getElem?_eq_some_iff.1 hx).1)
        rw [h1]
        exact textsV_get xs j x hx)
      have hgl : g < wr.heap.size := lt_of_block hheap
      have JN := Lib.hid (joinI xs g cap wr (by rw [HN.out]; omega) H32.out (by rw [HN.out]; exact hkc) hgl hcell.out)
      rw [HN.out] at JN
      unfold maxLen at hcm
      clear hown hheap hcs htake
      go_wp2_with fail
      refine JN.out.mono ?_
      rintro e w9 ⟨rfl, hb9⟩
      go_wp2_with fail
      go_ret
      exact ⟨rfl, hB.trans (hb9.mono hB.size)⟩

end Go.Proofs.YtnplaiolencgjaaDoor
