/- Laws of the walk: a table is appended to a slice of the function's own. -/
import Derived.Test.YtnplaiolencgjaaDoorWz2
import Derived.Test.YtnplaiolencgjaaDoorWr
namespace Go.Proofs.YtnplaiolencgjaaDoor
set_option linter.unusedVariables false
set_option linter.unusedSimpArgs false
open Go.RowKit

section
variable {P : Program} {ops : Array Oper} {rest : List Oper} {a : Act} {w : World} {Q : Exit → Act → World → Prop}

theorem info_parts33 {e : TypeId} {z : Value} {b : Nat} (h : (P.info? e).map (fun i => (i.zero, i.size, i.bytes)) = some (some z, 33, b)) : ∃ i, P.info? e = some i ∧ i.zero = some z ∧ i.size = 33 ∧ i.bytes = b := by
  cases hi : P.info? e with
  | none => rw [hi] at h; cases h
  | some i =>
    rw [hi] at h
    simp only [Option.map_some, Option.some.injEq, Prod.mk.injEq] at h
    exact ⟨i, rfl, h.1, h.2.1, h.2.2⟩

theorem fold_set : ∀ (xs : List Value) (k : Nat) (A : Array Value), k + xs.length ≤ A.size →
    (xs.zipIdx k).foldl (fun cs x => cs.setIfInBounds x.2 x.1) A = (A.toList.take k ++ xs ++ A.toList.drop (k + xs.length)).toArray
  | [], k, A, _ => by simp
  | x :: xs, k, A, h => by
    simp only [List.length_cons] at h
    rw [List.zipIdx_cons, List.foldl_cons, fold_set xs (k + 1) _ (by simp; omega)]
    congr 1
    simp only [Array.toList_setIfInBounds]
    rw [List.drop_set_of_lt (by omega), List.take_add_one, List.getElem?_set_self (by simp; omega), List.take_set_of_le (Nat.le_refl _)]
    simp [Nat.add_assoc]
    omega

theorem fold_all (cs A : Array Value) (h : cs.size = A.size) : Array.foldl (fun cs (x : Value × Nat) => cs.setIfInBounds x.2 x.1) A cs.zipIdx 0 cs.size = cs := by
  have e : cs.size = cs.zipIdx.size := by simp
  rw [e, ← Array.foldl_toList, Array.toList_zipIdx, fold_set _ _ _ (by simp; omega)]
  apply Array.toList_inj.1
  simp [h]

theorem run_buildSlice33 (t e : TypeId) (cs : Array Value) (z : Value) (b : Nat) (ht : P.underlying t = some (.slice e)) (hi : (P.info? e).map (fun i => (i.zero, i.size, i.bytes)) = some (some z, 33, b)) (hcs : cs.size = 33) :
    (Instr.buildSlice t 1 #[(0, .agg cs)]).run P w = .ok (.slice (some ⟨w.heap.size, 0, none⟩) 1 1) (w.alloc (.cells cs e)) := by
  obtain ⟨i, hi, h0, h1, h2⟩ := info_parts33 hi
  simp [Instr.buildSlice, run_underlying ht, sizeOf, typeInfo, zeroValue, hi, h0, h1, Instr.fill, newRow, Value.cells]
  rw [if_neg (by omega), fold_all _ _ (by simp [hcs])]
  simp

/-- 'xs = append(xs, t)', xs the function's own, t a table. -/
theorem wpList_pushT {d2 : Option Tmp} {ty1 ty2 : TypeId} {p1 p2 : String} {a1 a2 : Array Edge} {j : Tmp} (t e : TypeId) (s x : Operand) (base n b : Nat) (v z : Value) (cs : Array Value) (xs : List Value)
    (ht : P.underlying t = some (.slice e)) (hi : (P.info? e).map (fun i => (i.zero, i.size, i.bytes)) = some (some z, 33, b)) (hz : z.cells.size = 33) (hcs : cs.size = 33) (hu1 : ∀ u ∈ cs.toList, u.oneCell' = true)
    (hx : a.eval x = .agg cs) (hs : (a.put (some j) (.slice (some ⟨w.heap.size, 0, none⟩) 1 1)).eval s = v) (hj : (a.put (some j) (.slice (some ⟨w.heap.size, 0, none⟩) 1 1)).eval (.tmp j) = .slice (some ⟨w.heap.size, 0, none⟩) 1 1)
    (hown : w.ownsRow base e 33 v n xs) (hb : base ≤ w.heap.size) (hn : n ≤ 65536) (hbb : b ≤ 64)
    (h : ∀ v' w', w'.ownsRow base e 33 v' (n + 1) (xs ++ cs.toList) → w.grownBy w' v.ownBlock → (v'.ownBlock = v.ownBlock ∨ v'.ownBlock = some (w.heap.size + 1)) → Below base w w' → wpList P ops Q rest ((a.put (some j) (.slice (some ⟨w.heap.size, 0, none⟩) 1 1)).put d2 v') w') :
    wpList P ops Q (⟨some j, .buildSlice t 1 #[(0, x)], ty1, p1, a1, none⟩ :: ⟨d2, .call { callee := .builtin .append, args := #[s, .tmp j], argTypes := #[t, t] }, ty2, p2, a2, none⟩ :: rest) a w := by
  refine wpList_plain rfl fun K hK => ?_
  unfold Oper.wp
  simp [execOp, hx, run_buildSlice33 (w := w) t e cs z b ht hi hcs, Result.andThen]
  refine hK _ _ ?_
  obtain ⟨i, hi, h0, h1, h2⟩ := info_parts33 hi
  have hbytes : (n + 1) * b ≤ 140737488355328 := by
    have : (n + 1) * b ≤ 65537 * 64 := Nat.mul_le_mul (by omega) hbb
    omega
  obtain ⟨v', w', hrun, r2, r3, _, r5⟩ := run_append_own_at (P := P) (w.alloc (.cells cs e)) base t ty2 e i z 33 b ht hi h0 h1 h2 hz (by omega) v n xs (hown.alloc _) ⟨w.heap.size, 0, none⟩ 1 1 cs.toList (by simpa using hcs)
    (by intro k q hk; rw [addr_add, Nat.zero_add, cell_of_row _ _ _ _ _ _ (heap_alloc_new w _)]; simpa using hk) hu1 (by unfold maxLen; omega) hbytes (by simp; omega)
  refine wpList_plain rfl fun K2 hK2 => ?_
  unfold Oper.wp execOp
  simp only [resolve, invoke, builtin, Sem.run_bind, Sem.run_pure, Result.andThen_ok, List.map_toArray, List.map_cons, List.map_nil, hs, hj, hrun]
  have hg : w.grownBy w' v.ownBlock := ⟨r3.os, r3.tape, r3.output, Nat.le_trans (by simp) r3.size, fun k hk hne => (r3.block k (by simp; omega) hne).trans (Below.heap_alloc w _ k hk)⟩
  refine hK2 _ _ (h v' w' r2 hg (by simpa using r5) ?_)
  exact (Below.refl _ _).grown hg hb (fun k hk => (hown.lt k hk).1)

end

end Go.Proofs.YtnplaiolencgjaaDoor
