/- Walks: a text cut at its commas, the reference. -/
import Derived.Test.YtnplaiolencgjaaDoorPm
import Derived.Test.YtnplaiolencgjaaDoorWo2
import Derived.Test.YtnplaiolencgjaaDoorWb
import Derived.Test.YtnplaiolencgjaaDoorWp
namespace Go.Proofs.YtnplaiolencgjaaDoor
set_option linter.unusedVariables false
set_option linter.unusedSimpArgs false
open Go.RowKit

section
variable {P : Program} {ops : Array Oper} {rest : List Oper} {a : Act} {w : World} {Q : Exit → Act → World → Prop}

/-- 'xs = append(xs, u)', xs the function's own. -/
theorem wpList_pushB {d2 : Option Tmp} {ty1 ty2 : TypeId} {p1 p2 : String} {a1 a2 : Array Edge} {j : Tmp} (t e : TypeId) (s x : Operand) (base n b : Nat) (v u z : Value) (xs : List Value)
    (ht : P.underlying t = some (.slice e)) (hi : (P.info? e).map (fun i => (i.zero, i.size, i.bytes)) = some (some z, 1, b)) (hz : z.cells.size = 1) (hu : u.cells = #[u]) (hu1 : u.oneCell' = true)
    (hx : a.eval x = u) (hs : (a.put (some j) (.slice (some ⟨w.heap.size, 0, none⟩) 1 1)).eval s = v) (hj : (a.put (some j) (.slice (some ⟨w.heap.size, 0, none⟩) 1 1)).eval (.tmp j) = .slice (some ⟨w.heap.size, 0, none⟩) 1 1)
    (hown : w.ownsRow base e 1 v n xs) (hb : base ≤ w.heap.size) (hn : n ≤ 2097152) (hbb : b ≤ 64)
    (h : ∀ v' w', w'.ownsRow base e 1 v' (n + 1) (xs ++ [u]) → w.grownBy w' v.ownBlock → (v'.ownBlock = v.ownBlock ∨ v'.ownBlock = some (w.heap.size + 1)) → Below base w w' → wpList P ops Q rest ((a.put (some j) (.slice (some ⟨w.heap.size, 0, none⟩) 1 1)).put d2 v') w') :
    wpList P ops Q (⟨some j, .buildSlice t 1 #[(0, x)], ty1, p1, a1, none⟩ :: ⟨d2, .call { callee := .builtin .append, args := #[s, .tmp j], argTypes := #[t, t] }, ty2, p2, a2, none⟩ :: rest) a w := by
  refine wpList_plain rfl fun K hK => ?_
  unfold Oper.wp
  simp [execOp, hx, run_buildSlice1 (w := w) t e u z b ht hi hz hu, Result.andThen]
  refine hK _ _ ?_
  obtain ⟨i, hi, h0, h1, h2⟩ := info_parts hi
  have hbytes : (n + 1) * b ≤ 140737488355328 := by
    have : (n + 1) * b ≤ 2097153 * 64 := Nat.mul_le_mul (by omega) hbb
    omega
  obtain ⟨v', w', hrun, r2, r3, _, r5⟩ := run_append_own_at (P := P) (w.alloc (.cells #[u] e)) base t ty2 e i z 1 b ht hi h0 h1 h2 hz (by omega) v n xs (hown.alloc _) ⟨w.heap.size, 0, none⟩ 1 1 [u] rfl
    (by intro k q hk; match k, hk with | 0, hk => (simp at hk; subst hk; exact (cell_of_row _ _ _ _ _ _ (heap_alloc_new w _)).trans rfl)) (by intro q hq; simp at hq; subst hq; exact hu1) (by unfold maxLen; omega) hbytes (by simp; omega)
  refine wpList_plain rfl fun K2 hK2 => ?_
  unfold Oper.wp execOp
  simp only [resolve, invoke, builtin, Sem.run_bind, Sem.run_pure, Result.andThen_ok, List.map_toArray, List.map_cons, List.map_nil, hs, hj, hrun]
  have hg : w.grownBy w' v.ownBlock := ⟨r3.os, r3.tape, r3.output, Nat.le_trans (by simp) r3.size, fun k hk hne => (r3.block k (by simp; omega) hne).trans (Below.heap_alloc w _ k hk)⟩
  refine hK2 _ _ (h v' w' r2 hg (by simpa using r5) ?_)
  exact (Below.refl _ _).grown hg hb (fun k hk => (hown.lt k hk).1)

end

theorem ext_list (s : ByteArray) (f k : Nat) : (s.extract f k).data.toList = (s.data.toList.drop f).take (k - f) := by
  rw [ByteArray.data_extract, Array.toList_extract, List.extract_eq_drop_take', List.drop_take]

theorem get_list (s : ByteArray) (k : Nat) (h : k < s.size) : s.data.toList[k]? = some s[k] := by
  rw [List.getElem?_eq_getElem (by exact h)]; rfl

theorem cut_texts (l : List (List UInt8)) (y : ByteArray) : textsV l ++ [.string y] = textsV (l ++ [y.data.toList]) := by
  unfold textsV; simp

theorem l14CutS (s : ByteArray) (w : World) (hs : s.size ≤ 1048576) :
    Calls Tryd.prog 46 #[.string s, .int .u8 44] w fun e w' => ∃ v, e = .returned v ∧ Res w' w.heap.size 9 v (textsV (cutG 44 [] s.data.toList)) ∧ Below w.heap.size w w' := by
  obtain ⟨Z, hZ⟩ : ∃ Z, cutG 44 [] s.data.toList = Z := ⟨_, rfl⟩
  have HZ := Lib.hid hZ
  rw [hZ]
  clear hZ
  go_enter Tryd.func46, Tryd.ntmps46
  go_wp2_with (first | ((with_reducible refine wpList_empty 36 9 (.string ⟨#[]⟩) 16 Tryd.underlying36 infoS ?_); intro w1 hown1 hg1 hz1; (try simp only [Act.put, List.setIfInBounds_toArray, List.set_cons_succ, List.set_cons_zero, World.size_alloc, Nat.add_assoc, Nat.reduceAdd])) | fail)
  go_loopw [5, 6, 7] (fun v g j wr => ∃ (k f m : Nat) (out : List (List UInt8)), k ≤ s.size + 1 ∧ f ≤ k ∧ m ≤ k ∧ j = .int .i64 k ∧ g = .int .i64 f ∧ Hid (out.length = m) ∧ Hid (k ≤ s.size → Z = out ++ cutG 44 ((s.data.toList.drop f).take (k - f)) (s.data.toList.drop k)) ∧ Hid (k = s.size + 1 → Z = out) ∧ wr.ownsRow w.heap.size 9 1 v m (textsV out) ∧ Below w.heap.size w wr) (fun _ _ j _ => s.size + 1 - (intOf j).toNat)
  case atStart => exact ⟨0, 0, 0, [], Nat.zero_le _, Nat.zero_le _, Nat.zero_le _, rfl, rfl, rfl, (fun _ => by simpa using HZ.out.symm), (fun h => absurd h (by omega)), hown1, (Below.refl _ _).grown hg1 (Nat.le_refl _) (fun k hk => by cases hk)⟩
  case round =>
    clear hown1 hg1 hz1
    obtain ⟨k, f, m, out, hk, hf, hm, rfl, rfl, HL, HA, HE, hown, hB⟩ := hrel
    have hsz := hB.size
    by_cases hlt : k < s.size
    · have hne : ((k : Int) == (s.size : Int)) = false := by simp; omega
      by_cases hc : s[k] = 44
      · have HC := Lib.hid hc
        have hc2 : ((s[k].toNat : Int) == 44) = true := by rw [hc]; rfl
        clear hc
        go_wp2_with (first | ((with_reducible refine wpList_pushB 36 9 _ _ (w.heap.size) (m) 16 (u5) (.string (s.extract f k)) (.string ⟨#[]⟩) (_) Tryd.underlying36 infoS rfl rfl rfl ?_ ?_ ?_ (hown) (hsz) (by omega) (by decide) ?_); rfl; rfl; rfl; intro v2 w2 hown2 hg2 hat2 hbel2; (try simp only [Act.put, List.setIfInBounds_toArray, List.set_cons_succ, List.set_cons_zero, World.size_alloc, Nat.add_assoc, Nat.reduceAdd])) | fail)
        go_roundw
        case rel =>
          refine ⟨k + 1, k + 1, m + 1, out ++ [(s.extract f k).data.toList], by omega, by omega, by omega, by go_num, by go_num, by rw [List.length_append, HL.out]; rfl, fun _ => ?_, fun h => absurd h (by omega), by rw [← cut_texts]; exact hown2, below_grown hB hbel2 (Nat.le_refl _)⟩
          rw [HA.out (by omega), cutG_step_hit 44 _ k _ (by rw [get_list s k hlt, HC.out]), ext_list]
          simp
        case measure => simp [intOf]; omega
      · have HC := Lib.hid hc
        have hc2 : ((s[k].toNat : Int) == 44) = false := by
          rw [beq_eq_false_iff_ne]; intro e; apply hc; apply UInt8.toNat_inj.1; show s[k].toNat = 44; omega
        clear hc
        go_wp2_with fail
        go_roundw
        case rel =>
          refine ⟨k + 1, f, m, out, by omega, by omega, by omega, by go_num, rfl, HL, fun _ => ?_, fun h => absurd h (by omega), hown, hB⟩
          rw [HA.out (by omega), cutG_step_miss 44 _ k _ s[k] (get_list s k hlt) HC.out]
          congr 2
          rw [show k + 1 - f = (k - f) + 1 by omega, List.take_add_one, List.getElem?_drop, show f + (k - f) = k by omega, get_list s k hlt]
          rfl
        case measure => simp [intOf]; omega
    · by_cases hkk : k = s.size
      · subst hkk
        go_wp2_with (first | ((with_reducible refine wpList_pushB 36 9 _ _ (w.heap.size) (m) 16 (u5) (.string (s.extract f s.size)) (.string ⟨#[]⟩) (_) Tryd.underlying36 infoS rfl rfl rfl ?_ ?_ ?_ (hown) (hsz) (by omega) (by decide) ?_); rfl; rfl; rfl; intro v2 w2 hown2 hg2 hat2 hbel2; (try simp only [Act.put, List.setIfInBounds_toArray, List.set_cons_succ, List.set_cons_zero, World.size_alloc, Nat.add_assoc, Nat.reduceAdd])) | fail)
        go_roundw
        case rel =>
          refine ⟨s.size + 1, s.size + 1, m + 1, out ++ [(s.extract f s.size).data.toList], by omega, by omega, by omega, by go_num, by go_num, by rw [List.length_append, HL.out]; rfl, fun h => absurd h (by omega), fun _ => ?_, by rw [← cut_texts]; exact hown2, below_grown hB hbel2 (Nat.le_refl _)⟩
          rw [HA.out (by omega), ext_list, show s.data.toList.drop s.size = [] from List.drop_of_length_le (Nat.le_refl _)]
          rfl
        case measure => simp [intOf]
      · obtain rfl : k = s.size + 1 := by omega
        have HZ2 := Lib.hid (HE.out rfl)
        go_wp2_with fail
        go_ret
        exact ⟨_, rfl, by rw [HZ2.out]; exact Res.of_own hown, hB⟩

end Go.Proofs.YtnplaiolencgjaaDoor
