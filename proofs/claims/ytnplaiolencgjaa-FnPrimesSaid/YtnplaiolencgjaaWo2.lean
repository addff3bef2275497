/- Laws of the walk: a list is appended to a slice of the function's own. -/
import Derived.Test.YtnplaiolencgjaaWq
import Derived.Laws.AppendOwnNone
import Derived.RegionTactic
namespace Go.Proofs.Ytnplaiolencgjaa
set_option linter.unusedVariables false
set_option linter.unusedSimpArgs false
open Go.RowKit

/-- What is appended lies somewhere, or is nothing. -/
def Src (w : World) (A : Option Addr) (news : List Value) : Prop := news ≠ [] → ∃ b off, A = some ⟨b, off, none⟩ ∧ ∀ k u, news[k]? = some u → w.cell? ⟨b, off + k, none⟩ = some u

theorem Src.below {w w' : World} {A : Option Addr} {news : List Value} (h : Src w A news) (hb : Below w.heap.size w w') : Src w' A news := by
  intro hne
  obtain ⟨b, off, hA, hk⟩ := h hne
  exact ⟨b, off, hA, fun k u hu => (hb.cell (p := ⟨b, off + k, none⟩) (block_lt_of_cell (hk k u hu))).trans (hk k u hu)⟩
theorem Src.of_row {w : World} {A : Option Addr} {n c : Nat} {xs : List Value} (h : Row w (.slice A n c) xs) : Src w A xs := by
  obtain ⟨A', c', hv, _, _, hc⟩ := h
  injection hv with h1 h2 h3
  subst h1
  intro hne
  obtain ⟨b, off, hA, _, hk⟩ := hc hne
  exact ⟨b, off, hA, hk⟩
theorem Src.none_ (w : World) (A : Option Addr) : Src w A [] := fun h => absurd rfl h

theorem addr_add (b off k : Nat) : (⟨b, off, none⟩ : Addr).add k = ⟨b, off + k, none⟩ := by unfold Addr.add; split <;> simp_all

section
variable {P : Program} (w : World)

theorem run_append_nothing (base : Nat) (t ty e : TypeId) (i : TypeInfo) (size : Nat) (ht : P.underlying t = some (.slice e)) (hi : P.info? e = some i) (v : Value) (n : Nat) (xs : List Value) (hown : w.ownsRow base e size v n xs) (c : Nat) :
    (Builtin.append_ #[t, t] ty #[v, .slice none 0 c]).run P w = .ok v w := by
  rcases hown.2 with ⟨rfl, rfl⟩ | ⟨g, cap, cur, rfl, _, _, hnc, _⟩
  · simp [Builtin.append_, run_underlying ht, sizeOf, typeInfo, hi, Builtin.lenOf, Builtin.firstCells]
  · simp [Builtin.append_, run_underlying ht, sizeOf, typeInfo, hi, Builtin.lenOf, Builtin.firstCells, hnc, storeCells]

theorem run_append_row (base : Nat) (t ty e : TypeId) (z : Value) (b : Nat) (ht : P.underlying t = some (.slice e)) (hi : (P.info? e).map (fun i => (i.zero, i.size, i.bytes)) = some (some z, 1, b)) (hz : z.cells.size = 1)
    (v : Value) (n : Nat) (xs : List Value) (hown : w.ownsRow base e 1 v n xs) (A : Option Addr) (m c : Nat) (news : List Value) (hl : news.length = m) (hA : Src w A news) (h1 : ∀ u ∈ news, u.oneCell' = true)
    (hn : n + m ≤ 65536) (hbb : b ≤ 64) (hbase : base ≤ w.heap.size) :
    ∃ v' w', (Builtin.append_ #[t, t] ty #[v, .slice A m c]).run P w = .ok v' w' ∧ w'.ownsRow base e 1 v' (n + m) (xs ++ news) ∧ w.grownBy w' v.ownBlock ∧ (v'.ownBlock = v.ownBlock ∨ v'.ownBlock = some w.heap.size) := by
  obtain ⟨i, hi, h0, hs1, hs2⟩ := info_parts hi
  have hbytes : (n + m) * b ≤ 140737488355328 := by
    have : (n + m) * b ≤ 65536 * 64 := Nat.mul_le_mul hn hbb
    omega
  rcases A with _ | ad
  · have he : news = [] := by
      rcases Classical.em (news = []) with h | h
      · exact h
      · obtain ⟨b', off', h', _⟩ := hA h
        cases h'
    subst he
    have hm : m = 0 := by simpa using hl.symm
    subst hm
    exact ⟨v, w, run_append_nothing w base t ty e i 1 ht hi v n xs hown c, by simpa using hown, World.grownBy.refl w _, .inl rfl⟩
  · have hcells : ∀ j u, news[j]? = some u → w.cell? (ad.add j) = some u := by
      intro j u hu
      have hne : news ≠ [] := by intro h; rw [h] at hu; simp at hu
      obtain ⟨b', off', h', hk⟩ := hA hne
      injection h' with h'
      subst h'
      rw [addr_add]
      exact hk j u hu
    obtain ⟨v', w', hrun, r2, r3, _, r5⟩ := run_append_own_at (P := P) w base t ty e i z 1 b ht hi h0 hs1 hs2 hz (by omega) v n xs hown ad m c news (by omega) hcells h1 (by unfold maxLen; omega) hbytes hbase
    exact ⟨v', w', hrun, r2, r3, r5⟩

theorem wp_append_row {o : Oper} {a : Act} {K : Act → World → Prop} {Q : Exit → Act → World → Prop} (s x : Operand) (t : TypeId) (ho : o.op = .call { callee := .builtin .append, args := #[s, x], argTypes := #[t, t] })
    (base : Nat) (e : TypeId) (z : Value) (b : Nat) (ht : P.underlying t = some (.slice e)) (hi : (P.info? e).map (fun i => (i.zero, i.size, i.bytes)) = some (some z, 1, b)) (hz : z.cells.size = 1)
    (v : Value) (n : Nat) (xs : List Value) (hs : a.eval s = v) (hown : w.ownsRow base e 1 v n xs) (A : Option Addr) (m c : Nat) (news : List Value) (hx : a.eval x = .slice A m c) (hl : news.length = m) (hA : Src w A news) (h1 : ∀ u ∈ news, u.oneCell' = true)
    (hn : n + m ≤ 65536) (hbb : b ≤ 64) (hbase : base ≤ w.heap.size)
    (h : ∀ v' w', w'.ownsRow base e 1 v' (n + m) (xs ++ news) → w.grownBy w' v.ownBlock → (v'.ownBlock = v.ownBlock ∨ v'.ownBlock = some w.heap.size) → Below base w w' → K (a.put o.dst v') w') : o.wp P a w K Q := by
  obtain ⟨v', w', hrun, r2, r3, r5⟩ := run_append_row (P := P) w base t o.type e z b ht hi hz v n xs hown A m c news hl hA h1 hn hbb hbase
  unfold Oper.wp execOp
  simp only [ho, resolve, invoke, builtin, Sem.run_bind, Sem.run_pure, Result.andThen_ok, List.map_toArray, List.map_cons, List.map_nil, hs, hx, hrun]
  exact h v' w' r2 r3 r5 ((Below.refl _ _).grown r3 hbase (fun k hk => (hown.lt k hk).1))

theorem wpList_append_row {ops : Array Oper} {rest : List Oper} {a : Act} {Q : Exit → Act → World → Prop} {dst : Option Tmp} {ty0 : TypeId} {pos : String} {aft : Array Edge} (s x : Operand) (t : TypeId)
    (base : Nat) (e : TypeId) (z : Value) (b : Nat) (ht : P.underlying t = some (.slice e)) (hi : (P.info? e).map (fun i => (i.zero, i.size, i.bytes)) = some (some z, 1, b)) (hz : z.cells.size = 1)
    (v : Value) (n : Nat) (xs : List Value) (A : Option Addr) (m c : Nat) (news : List Value) (hs : a.eval s = v) (hx : a.eval x = .slice A m c) (hown : w.ownsRow base e 1 v n xs) (hl : news.length = m) (hA : Src w A news) (h1 : ∀ u ∈ news, u.oneCell' = true)
    (hn : n + m ≤ 65536) (hbb : b ≤ 64) (hbase : base ≤ w.heap.size)
    (h : ∀ v' w', w'.ownsRow base e 1 v' (n + m) (xs ++ news) → w.grownBy w' v.ownBlock → (v'.ownBlock = v.ownBlock ∨ v'.ownBlock = some w.heap.size) → Below base w w' → wpList P ops Q rest (a.put dst v') w') :
    wpList P ops Q (⟨dst, .call { callee := .builtin .append, args := #[s, x], argTypes := #[t, t] }, ty0, pos, aft, none⟩ :: rest) a w :=
  wpList_plain rfl fun _ hK => wp_append_row w s x t rfl base e z b ht hi hz v n xs hs hown A m c news hx hl hA h1 hn hbb hbase fun v' w' h2 h3 h4 h5 => hK _ _ (h v' w' h2 h3 h4 h5)

theorem step_append_row {ops : Array Oper} {o : Oper} {a : Act} {K : Act → World → Prop} {Q : Exit → Act → World → Prop} {E : Prop} (hgd : o.guard = none) (s x : Operand) (t : TypeId) (ho : o.op = .call { callee := .builtin .append, args := #[s, x], argTypes := #[t, t] })
    (base : Nat) (e : TypeId) (z : Value) (b : Nat) (ht : P.underlying t = some (.slice e)) (hi : (P.info? e).map (fun i => (i.zero, i.size, i.bytes)) = some (some z, 1, b)) (hz : z.cells.size = 1)
    (v : Value) (n : Nat) (xs : List Value) (hs : a.eval s = v) (hown : w.ownsRow base e 1 v n xs) (A : Option Addr) (m c : Nat) (news : List Value) (hx : a.eval x = .slice A m c) (hl : news.length = m) (hA : Src w A news) (h1 : ∀ u ∈ news, u.oneCell' = true)
    (hn : n + m ≤ 65536) (hbb : b ≤ 64) (hbase : base ≤ w.heap.size)
    (h : ∀ v' w', w'.ownsRow base e 1 v' (n + m) (xs ++ news) → w.grownBy w' v.ownBlock → (v'.ownBlock = v.ownBlock ∨ v'.ownBlock = some w.heap.size) → Below base w w' → K (a.put o.dst v') w') :
    if Region.wanted o (yielded ops a.tmps) = true then Oper.wp P o a w K Q else E := by
  rw [if_pos (by simp [Region.wanted, hgd])]
  exact wp_append_row w s x t ho base e z b ht hi hz v n xs hs hown A m c news hx hl hA h1 hn hbb hbase h
end

end Go.Proofs.Ytnplaiolencgjaa
