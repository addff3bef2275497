/- Laws of the walk: a slice of the function's own that grows by one element. -/
import Derived.Test.YtnplaiolencgjaaWl
import Derived.Maps.AppendAt
import Derived.Laws.OwnMore
namespace Go.Proofs.Ytnplaiolencgjaa
set_option linter.unusedVariables false
set_option linter.unusedSimpArgs false
open Go.RowKit

section
variable {P : Program} {ops : Array Oper} {rest : List Oper} {a : Act} {w : World} {Q : Exit → Act → World → Prop}

theorem run_buildSlice1 (t e : TypeId) (u z : Value) (b : Nat) (ht : P.underlying t = some (.slice e)) (hi : (P.info? e).map (fun i => (i.zero, i.size, i.bytes)) = some (some z, 1, b)) (hz : z.cells.size = 1) (hu : u.cells = #[u]) :
    (Instr.buildSlice t 1 #[(0, u)]).run P w = .ok (.slice (some ⟨w.heap.size, 0, none⟩) 1 1) (w.alloc (.cells #[u] e)) := by
  obtain ⟨i, hi, h0, h1, h2⟩ := info_parts hi
  simp [Instr.buildSlice, run_underlying ht, sizeOf, typeInfo, zeroValue, hi, h0, h1, Instr.fill, hu, newRow]
  rw [show Array.range 1 = #[0] from rfl]
  simp

theorem run_buildSlice0 (t e : TypeId) (z : Value) (b : Nat) (ht : P.underlying t = some (.slice e)) (hi : (P.info? e).map (fun i => (i.zero, i.size, i.bytes)) = some (some z, 1, b)) :
    (Instr.buildSlice t 0 #[]).run P w = .ok (.slice (some ⟨w.heap.size, 0, none⟩) 0 0) (w.alloc (.cells #[] e)) := by
  obtain ⟨i, hi, h0, h1, h2⟩ := info_parts hi
  simp [Instr.buildSlice, run_underlying ht, sizeOf, typeInfo, hi, h1, Instr.fill, newRow, Array.range_zero']

/-- 'T{}' at a slice's type: what is owned is empty. -/
theorem wpList_empty {dst : Option Tmp} {ty0 : TypeId} {pos : String} {aft : Array Edge} (t e : TypeId) (z : Value) (b : Nat) (ht : P.underlying t = some (.slice e)) (hi : (P.info? e).map (fun i => (i.zero, i.size, i.bytes)) = some (some z, 1, b))
    (h : ∀ w', w'.ownsRow w.heap.size e 1 (.slice (some ⟨w.heap.size, 0, none⟩) 0 0) 0 [] → w.grownBy w' none → w'.heap.size = w.heap.size + 1 → wpList P ops Q rest (a.put dst (.slice (some ⟨w.heap.size, 0, none⟩) 0 0)) w') :
    wpList P ops Q (⟨dst, .buildSlice t 0 #[], ty0, pos, aft, none⟩ :: rest) a w := by
  refine wpList_plain rfl fun K hK => ?_
  unfold Oper.wp
  simp [execOp, run_buildSlice0 (w := w) t e z b ht hi, Result.andThen]
  refine hK _ _ (h _ ?_ ?_ (by simp))
  · exact ⟨rfl, .inr ⟨w.heap.size, 0, #[], rfl, Nat.le_refl _, heap_alloc_new _ _, Nat.le_refl _, Nat.zero_le _, rfl, rfl⟩⟩
  · exact ⟨rfl, rfl, rfl, by simp, fun k hk _ => Below.heap_alloc w _ k hk⟩

/-- 'xs = append(xs, u)', xs the function's own. -/
theorem wpList_push {d2 : Option Tmp} {ty1 ty2 : TypeId} {p1 p2 : String} {a1 a2 : Array Edge} {j : Tmp} (t e : TypeId) (s x : Operand) (base n b : Nat) (v u z : Value) (xs : List Value)
    (ht : P.underlying t = some (.slice e)) (hi : (P.info? e).map (fun i => (i.zero, i.size, i.bytes)) = some (some z, 1, b)) (hz : z.cells.size = 1) (hu : u.cells = #[u]) (hu1 : u.oneCell' = true)
    (hx : a.eval x = u) (hs : (a.put (some j) (.slice (some ⟨w.heap.size, 0, none⟩) 1 1)).eval s = v) (hj : (a.put (some j) (.slice (some ⟨w.heap.size, 0, none⟩) 1 1)).eval (.tmp j) = .slice (some ⟨w.heap.size, 0, none⟩) 1 1)
    (hown : w.ownsRow base e 1 v n xs) (hb : base ≤ w.heap.size) (hn : n ≤ 65536) (hbb : b ≤ 64)
    (h : ∀ v' w', w'.ownsRow base e 1 v' (n + 1) (xs ++ [u]) → w.grownBy w' v.ownBlock → (v'.ownBlock = v.ownBlock ∨ v'.ownBlock = some (w.heap.size + 1)) → Below base w w' → wpList P ops Q rest ((a.put (some j) (.slice (some ⟨w.heap.size, 0, none⟩) 1 1)).put d2 v') w') :
    wpList P ops Q (⟨some j, .buildSlice t 1 #[(0, x)], ty1, p1, a1, none⟩ :: ⟨d2, .call { callee := .builtin .append, args := #[s, .tmp j], argTypes := #[t, t] }, ty2, p2, a2, none⟩ :: rest) a w := by
  refine wpList_plain rfl fun K hK => ?_
  unfold Oper.wp
  simp [execOp, hx, run_buildSlice1 (w := w) t e u z b ht hi hz hu, Result.andThen]
  refine hK _ _ ?_
  obtain ⟨i, hi, h0, h1, h2⟩ := info_parts hi
  have hbytes : (n + 1) * b ≤ 140737488355328 := by
    have : (n + 1) * b ≤ 65537 * 64 := Nat.mul_le_mul (by omega) hbb
    omega
  obtain ⟨v', w', hrun, r2, r3, _, r5⟩ := run_append_own_at (P := P) (w.alloc (.cells #[u] e)) base t ty2 e i z 1 b ht hi h0 h1 h2 hz (by omega) v n xs (hown.alloc _) ⟨w.heap.size, 0, none⟩ 1 1 [u] rfl
    (by intro k q hk; match k, hk with | 0, hk => (simp at hk; subst hk; exact (cell_of_row _ _ _ _ _ _ (heap_alloc_new w _)).trans rfl)) (by intro q hq; simp at hq; subst hq; exact hu1) (by unfold maxLen; omega) hbytes (by simp; omega)
  refine wpList_plain rfl fun K2 hK2 => ?_
  unfold Oper.wp execOp
  simp only [resolve, invoke, builtin, Sem.run_bind, Sem.run_pure, Result.andThen_ok, List.map_toArray, List.map_cons, List.map_nil, hs, hj, hrun]
  have hg : w.grownBy w' v.ownBlock := ⟨r3.os, r3.tape, r3.output, Nat.le_trans (by simp) r3.size, fun k hk hne => (r3.block k (by simp; omega) hne).trans (Below.heap_alloc w _ k hk)⟩
  refine hK2 _ _ (h v' w' r2 hg (by simpa using r5) ?_)
  exact (Below.refl _ _).grown hg hb (fun k hk => (hown.lt k hk).1)

theorem run_buildSlice3 (t e : TypeId) (u1 u2 u3 z : Value) (b : Nat) (ht : P.underlying t = some (.slice e)) (hi : (P.info? e).map (fun i => (i.zero, i.size, i.bytes)) = some (some z, 1, b)) (hz : z.cells.size = 1) (h1 : u1.cells = #[u1]) (h2 : u2.cells = #[u2]) (h3 : u3.cells = #[u3]) :
    (Instr.buildSlice t 3 #[(0, u1), (1, u2), (2, u3)]).run P w = .ok (.slice (some ⟨w.heap.size, 0, none⟩) 3 3) (w.alloc (.cells #[u1, u2, u3] e)) := by
  obtain ⟨i, hi, h0, hs, hb⟩ := info_parts hi
  simp [Instr.buildSlice, run_underlying ht, sizeOf, typeInfo, zeroValue, hi, h0, hs, Instr.fill, h1, h2, h3, newRow]
  rw [show Array.range 3 = #[0, 1, 2] from rfl]
  simp

/-- 'xs = append(xs, u1, u2, u3)', xs the function's own. -/
theorem wpList_push3 {d2 : Option Tmp} {ty1 ty2 : TypeId} {p1 p2 : String} {a1 a2 : Array Edge} {j : Tmp} (t e : TypeId) (s x1 x2 x3 : Operand) (base n b : Nat) (v u1 u2 u3 z : Value) (xs : List Value)
    (ht : P.underlying t = some (.slice e)) (hi : (P.info? e).map (fun i => (i.zero, i.size, i.bytes)) = some (some z, 1, b)) (hz : z.cells.size = 1) (h1 : u1.cells = #[u1]) (h2 : u2.cells = #[u2]) (h3 : u3.cells = #[u3]) (k1 : u1.oneCell' = true) (k2 : u2.oneCell' = true) (k3 : u3.oneCell' = true)
    (hx1 : a.eval x1 = u1) (hx2 : a.eval x2 = u2) (hx3 : a.eval x3 = u3) (hs : (a.put (some j) (.slice (some ⟨w.heap.size, 0, none⟩) 3 3)).eval s = v) (hj : (a.put (some j) (.slice (some ⟨w.heap.size, 0, none⟩) 3 3)).eval (.tmp j) = .slice (some ⟨w.heap.size, 0, none⟩) 3 3)
    (hown : w.ownsRow base e 1 v n xs) (hb : base ≤ w.heap.size) (hn : n ≤ 65536) (hbb : b ≤ 64)
    (h : ∀ v' w', w'.ownsRow base e 1 v' (n + 3) (xs ++ [u1, u2, u3]) → w.grownBy w' v.ownBlock → (v'.ownBlock = v.ownBlock ∨ v'.ownBlock = some (w.heap.size + 1)) → Below base w w' → wpList P ops Q rest ((a.put (some j) (.slice (some ⟨w.heap.size, 0, none⟩) 3 3)).put d2 v') w') :
    wpList P ops Q (⟨some j, .buildSlice t 3 #[(0, x1), (1, x2), (2, x3)], ty1, p1, a1, none⟩ :: ⟨d2, .call { callee := .builtin .append, args := #[s, .tmp j], argTypes := #[t, t] }, ty2, p2, a2, none⟩ :: rest) a w := by
  refine wpList_plain rfl fun K hK => ?_
  unfold Oper.wp
  simp [execOp, hx1, hx2, hx3, run_buildSlice3 (w := w) t e u1 u2 u3 z b ht hi hz h1 h2 h3, Result.andThen]
  refine hK _ _ ?_
  obtain ⟨i, hi, h0, hs1, hs2⟩ := info_parts hi
  have hbytes : (n + 3) * b ≤ 140737488355328 := by
    have : (n + 3) * b ≤ 65539 * 64 := Nat.mul_le_mul (by omega) hbb
    omega
  obtain ⟨v', w', hrun, r2, r3, _, r5⟩ := run_append_own_at (P := P) (w.alloc (.cells #[u1, u2, u3] e)) base t ty2 e i z 1 b ht hi h0 hs1 hs2 hz (by omega) v n xs (hown.alloc _) ⟨w.heap.size, 0, none⟩ 3 3 [u1, u2, u3] rfl
    (by
      intro k q hk
      match k, hk with
      | 0, hk => (simp at hk; subst hk; exact (cell_of_row _ _ _ _ _ _ (heap_alloc_new w _)).trans rfl)
      | 1, hk => (simp at hk; subst hk; exact (cell_of_row _ _ _ _ _ _ (heap_alloc_new w _)).trans rfl)
      | 2, hk => (simp at hk; subst hk; exact (cell_of_row _ _ _ _ _ _ (heap_alloc_new w _)).trans rfl))
    (by intro q hq; simp at hq; rcases hq with rfl | rfl | rfl <;> assumption) (by unfold maxLen; omega) hbytes (by simp; omega)
  refine wpList_plain rfl fun K2 hK2 => ?_
  unfold Oper.wp execOp
  simp only [resolve, invoke, builtin, Sem.run_bind, Sem.run_pure, Result.andThen_ok, List.map_toArray, List.map_cons, List.map_nil, hs, hj, hrun]
  have hg : w.grownBy w' v.ownBlock := ⟨r3.os, r3.tape, r3.output, Nat.le_trans (by simp) r3.size, fun k hk hne => (r3.block k (by simp; omega) hne).trans (Below.heap_alloc w _ k hk)⟩
  refine hK2 _ _ (h v' w' r2 hg (by simpa using r5) ?_)
  exact (Below.refl _ _).grown hg hb (fun k hk => (hown.lt k hk).1)

/-- '[]T{u}': one element is owned. -/
theorem wpList_one {dst : Option Tmp} {ty0 : TypeId} {pos : String} {aft : Array Edge} (t e : TypeId) (x : Operand) (u z : Value) (b : Nat) (ht : P.underlying t = some (.slice e)) (hi : (P.info? e).map (fun i => (i.zero, i.size, i.bytes)) = some (some z, 1, b)) (hz : z.cells.size = 1) (hu : u.cells = #[u]) (hx : a.eval x = u)
    (h : ∀ w', w'.ownsRow w.heap.size e 1 (.slice (some ⟨w.heap.size, 0, none⟩) 1 1) 1 [u] → Below w.heap.size w w' → w'.heap.size = w.heap.size + 1 → wpList P ops Q rest (a.put dst (.slice (some ⟨w.heap.size, 0, none⟩) 1 1)) w') :
    wpList P ops Q (⟨dst, .buildSlice t 1 #[(0, x)], ty0, pos, aft, none⟩ :: rest) a w := by
  refine wpList_plain rfl fun K hK => ?_
  unfold Oper.wp
  simp [execOp, hx, run_buildSlice1 (w := w) t e u z b ht hi hz hu, Result.andThen]
  refine hK _ _ (h _ ?_ ((Below.refl _ _).alloc (Nat.le_refl _) _) (by simp))
  exact ⟨rfl, .inr ⟨w.heap.size, 1, #[u], rfl, Nat.le_refl _, heap_alloc_new _ _, Nat.le_refl _, by decide, rfl, rfl⟩⟩
end

theorem own_mono {w : World} {base base' size n : Nat} {e : TypeId} {v : Value} {xs : List Value} (h : w.ownsRow base e size v n xs) (hb : base' ≤ base) : w.ownsRow base' e size v n xs := by
  rcases h.2 with ⟨rfl, rfl⟩ | ⟨g, cap, cur, rfl, hbg, hg, hn, hc, hs, ht⟩
  · exact ⟨h.1, .inl ⟨rfl, rfl⟩⟩
  · exact ⟨h.1, .inr ⟨g, cap, cur, rfl, Nat.le_trans hb hbg, hg, hn, hc, hs, ht⟩⟩

theorem below_grown {B : Nat} {a w w' : World} {base : Nat} (h : Below B a w) (hg : Below base w w') (hB : B ≤ base) : Below B a w' := h.trans (hg.mono hB)

/-- A slice that reads as a list, one cell an element. -/
def Row (w : World) (v : Value) (xs : List Value) : Prop :=
  ∃ A c, v = .slice A xs.length c ∧ xs.length ≤ c ∧ c ≤ maxLen ∧ (xs ≠ [] → ∃ b off, A = some ⟨b, off, none⟩ ∧ b < w.heap.size ∧ ∀ k u, xs[k]? = some u → w.cell? ⟨b, off + k, none⟩ = some u)
theorem Row.keep {w w' : World} {v : Value} {xs : List Value} (h : Row w v xs) (hb : Below w.heap.size w w') : Row w' v xs := by
  obtain ⟨A, c, hv, h1, h2, hc⟩ := h
  refine ⟨A, c, hv, h1, h2, fun hne => ?_⟩
  obtain ⟨b, off, hA, hlt, hk⟩ := hc hne
  exact ⟨b, off, hA, Nat.lt_of_lt_of_le hlt hb.size, fun k u hu => (hb.cell (p := ⟨b, off + k, none⟩) hlt).trans (hk k u hu)⟩
theorem Row.of_own {w : World} {base : Nat} {e : TypeId} {v : Value} {n : Nat} {xs : List Value} (h : w.ownsRow base e 1 v n xs) : Row w v xs := by
  have hl : xs.length = n := by have := h.1; omega
  have h' := h
  rcases h.2 with ⟨rfl, rfl⟩ | ⟨g, cap, cur, rfl, hb, hg, hn, hc, hs, ht⟩
  · have : xs = [] := List.eq_nil_of_length_eq_zero hl
    subst this
    exact ⟨none, 0, rfl, Nat.le_refl _, Nat.zero_le _, fun hne => absurd rfl hne⟩
  · refine ⟨some ⟨g, 0, none⟩, cap, by rw [hl], by omega, hc, fun _ => ⟨g, 0, rfl, lt_of_block hg, fun k u hu => ?_⟩⟩
    have hk : k < n := by have := (List.getElem?_eq_some_iff.1 hu).1; omega
    rw [Nat.zero_add, h'.cellAt k (by omega)]
    exact hu

end Go.Proofs.Ytnplaiolencgjaa
