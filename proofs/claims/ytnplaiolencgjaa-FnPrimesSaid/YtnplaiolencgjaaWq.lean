/- Laws of the walk: a list that a function returns. -/
import Derived.Test.YtnplaiolencgjaaWo
namespace Go.Proofs.Ytnplaiolencgjaa
set_option linter.unusedVariables false
set_option linter.unusedSimpArgs false
open Go.RowKit

/-- A slice that was made from block 'base' on, and reads as a list. -/
def Res (w : World) (base : Nat) (e : TypeId) (v : Value) (xs : List Value) : Prop :=
  ∃ A c, v = .slice A xs.length c ∧ xs.length ≤ c ∧ c ≤ maxLen ∧ (xs ≠ [] → ∃ g cur, A = some ⟨g, 0, none⟩ ∧ base ≤ g ∧ w.heap[g]? = some (.cells cur e (0, 0)) ∧ ∀ (k : Nat) (u : Value), xs[k]? = some u → cur[k]? = some u)

theorem Res.row {w : World} {base : Nat} {e : TypeId} {v : Value} {xs : List Value} (h : Res w base e v xs) : Row w v xs := by
  obtain ⟨A, c, hv, h1, h2, hc⟩ := h
  refine ⟨A, c, hv, h1, h2, fun hne => ?_⟩
  obtain ⟨g, cur, hA, hb, hg, hk⟩ := hc hne
  exact ⟨g, 0, hA, lt_of_block hg, fun k u hu => by rw [Nat.zero_add, cell_of_row _ _ _ _ _ _ hg]; exact hk k u hu⟩

theorem Res.keep {w w' : World} {base : Nat} {e : TypeId} {v : Value} {xs : List Value} (h : Res w base e v xs) (hb : Below w.heap.size w w') : Res w' base e v xs := by
  obtain ⟨A, c, hv, h1, h2, hc⟩ := h
  refine ⟨A, c, hv, h1, h2, fun hne => ?_⟩
  obtain ⟨g, cur, hA, hbg, hg, hk⟩ := hc hne
  exact ⟨g, cur, hA, hbg, (hb.block _ (lt_of_block hg)).trans hg, hk⟩

theorem Res.mono {w : World} {base base' : Nat} {e : TypeId} {v : Value} {xs : List Value} (h : Res w base e v xs) (hb : base' ≤ base) : Res w base' e v xs := by
  obtain ⟨A, c, hv, h1, h2, hc⟩ := h
  refine ⟨A, c, hv, h1, h2, fun hne => ?_⟩
  obtain ⟨g, cur, hA, hbg, hg, hk⟩ := hc hne
  exact ⟨g, cur, hA, Nat.le_trans hb hbg, hg, hk⟩

theorem Res.of_own {w : World} {base : Nat} {e : TypeId} {v : Value} {n : Nat} {xs : List Value} (h : w.ownsRow base e 1 v n xs) : Res w base e v xs := by
  have hl : xs.length = n := by have := h.1; omega
  rcases h.2 with ⟨rfl, rfl⟩ | ⟨g, cap, cur, rfl, hb, hg, hn, hc, hs, ht⟩
  · have : xs = [] := List.eq_nil_of_length_eq_zero hl
    subst this
    exact ⟨none, 0, rfl, Nat.le_refl _, Nat.zero_le _, fun hne => absurd rfl hne⟩
  · refine ⟨some ⟨g, 0, none⟩, cap, by rw [hl], by omega, hc, fun _ => ⟨g, cur, rfl, hb, hg, fun k u hu => ?_⟩⟩
    rw [← ht, Nat.mul_one] at hu
    have hk : k < n := by
      rcases Nat.lt_or_ge k n with h | h
      · exact h
      · rw [List.getElem?_eq_none (by rw [List.length_take]; omega)] at hu; cases hu
    rw [List.getElem?_take_of_lt hk] at hu
    simpa using hu

/-- An empty list that nobody has made. -/
theorem Res.none_ (w : World) (base : Nat) (e : TypeId) : Res w base e (.slice none 0 0) [] := ⟨none, 0, rfl, Nat.le_refl _, Nat.zero_le _, fun h => absurd rfl h⟩

theorem own_below {w w' : World} {base size n : Nat} {e : TypeId} {v : Value} {xs : List Value} (h : w.ownsRow base e size v n xs) (hb : Below w.heap.size w w') : w'.ownsRow base e size v n xs := by
  rcases h.2 with ⟨rfl, rfl⟩ | ⟨g, cap, cur, rfl, hbg, hg, hn, hc, hs, ht⟩
  · exact ⟨h.1, .inl ⟨rfl, rfl⟩⟩
  · exact ⟨h.1, .inr ⟨g, cap, cur, rfl, hbg, (hb.block _ (lt_of_block hg)).trans hg, hn, hc, hs, ht⟩⟩

end Go.Proofs.Ytnplaiolencgjaa
