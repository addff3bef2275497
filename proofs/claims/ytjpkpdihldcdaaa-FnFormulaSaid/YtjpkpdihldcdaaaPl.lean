/- Plain: the laws of formulas. -/
import Derived.Test.YtjpkpdihldcdaaaPf
import Derived.Test.YtjpkpdihldcdaaaPh
namespace Go.Proofs.Ytjpkpdihldcdaaa
set_option linter.unusedVariables false
set_option linter.unusedSimpArgs false

theorem pf_fuel (n : Nat) : ∀ (k : Nat) (l : List UInt8) (k' : Nat), l.length ≤ k → l.length ≤ k' → pf n k l = pf n k' l := by
  intro k
  induction k with
  | zero =>
    intro l k' h _
    have : l = [] := List.length_eq_zero_iff.1 (by omega)
    subst this
    cases k' <;> rfl
  | succ k ih =>
    intro l k' h h'
    rcases l with _ | ⟨c, r⟩
    · cases k' <;> rfl
    · obtain ⟨k', rfl⟩ : ∃ j, k' = j + 1 := ⟨k' - 1, by simp at h'; omega⟩
      simp only [List.length_cons] at h h'
      have e : pf n k r = pf n k' r := ih r k' (by omega) (by omega)
      rw [pf, pf, e]
      split
      · rfl
      · split
        · rfl
        · split
          · rfl
          · split
            · split
              · rfl
              · next a m hh =>
                have := pf_len n k' r a m hh
                rw [ih m k' (by omega) (by omega)]
            · rfl
theorem pf_append (n : Nat) (r : List UInt8) : ∀ (k : Nat) (l : List UInt8) (a : Fm) (m : List UInt8), pf n k l = some (a, m) → pf n k (l ++ r) = some (a, m ++ r) := by
  intro k
  induction k with
  | zero => intro l a m h; cases h
  | succ k ih =>
    intro l a m h
    rcases l with _ | ⟨c, q⟩
    · cases h
    · rw [List.cons_append]
      rw [pf] at h ⊢
      split at h
      · next hd => injection h with h; injection h with h1 h2; subst h1; subst h2; rw [if_pos hd]
      · next hd =>
        rw [if_neg hd]
        split at h
        · next hi => injection h with h; injection h with h1 h2; subst h1; subst h2; rw [if_pos hi]
        · next hi =>
          rw [if_neg hi]
          split at h
          · next h33 =>
            rw [if_pos h33]
            split at h
            · cases h
            · next a' m' hh =>
              injection h with h; injection h with h1 h2; subst h1; subst h2
              rw [ih q a' m' hh]
          · next h33 =>
            rw [if_neg h33]
            split at h
            · next h3 =>
              rw [if_pos h3]
              split at h
              · cases h
              · next a' m' hh =>
                split at h
                · cases h
                · next b p hq =>
                  injection h with h; injection h with h1 h2; subst h1; subst h2
                  rw [ih q a' m' hh]
                  simp only []
                  rw [ih m' b p hq]
            · cases h

theorem fmOk_iff (l : List UInt8) (n : Nat) : fmOk l (n : Int) = true ↔ 1 ≤ n ∧ n ≤ 5 ∧ l.length ≤ 100 ∧ ∃ a, pf n 100 l = some (a, []) := by
  unfold fmOk
  rw [Int.toNat_natCast]
  simp only [Bool.and_eq_true, decide_eq_true_eq]
  constructor
  · rintro ⟨⟨h1, h2⟩, h3, h4⟩
    refine ⟨by omega, by omega, h3, ?_⟩
    split at h4
    · next a hh => exact ⟨a, hh⟩
    · cases h4
  · rintro ⟨h1, h2, h3, a, ha⟩
    refine ⟨⟨by omega, by omega⟩, h3, ?_⟩
    rw [ha]
theorem fm_neg (n : Nat) (l : List UInt8) (a : Fm) (hl : l.length < 100) (h : pf n 100 l = some (a, [])) : pf n 100 (33 :: l) = some (.neg a, []) := by
  rw [pf_neg n 99 l, pf_fuel n 99 l 100 (by omega) (by omega), h]
theorem fm_two (n : Nat) (c : UInt8) (l r : List UInt8) (a b : Fm) (h5 : n ≤ 5) (hc : c = 38 ∨ c = 124 ∨ c = 94) (hl : l.length + r.length ≤ 99) (h : pf n 100 l = some (a, [])) (hr : pf n 100 r = some (b, [])) : pf n 100 (c :: (l ++ r)) = some (.two c a b, []) := by
  have e1 : pf n 99 (l ++ r) = some (a, r) := by
    have := pf_append n r 99 l a [] (by rw [pf_fuel n 99 l 100 (by omega) (by omega)]; exact h)
    simpa using this
  have e2 : pf n 99 r = some (b, []) := by rw [pf_fuel n 99 r 100 (by omega) (by omega)]; exact hr
  rw [pf_two n 99 c (l ++ r) (by rcases hc with h | h | h <;> subst h <;> simp <;> omega) hc, e1]
  simp only []
  rw [e2]
theorem fm_in (n : Nat) (h1 : 1 ≤ n) : pf n 100 [97] = some (.inp 97, []) := pf_inp n 99 97 [] (by decide) (by constructor <;> simp; omega)
theorem fm_more (n : Nat) (l : List UInt8) (a : Fm) (h : pf n 100 l = some (a, [])) : fmOk (l ++ [97]) (n : Int) = false := by
  rw [Bool.eq_false_iff]
  intro hh
  obtain ⟨_, _, _, b, hb⟩ := (fmOk_iff _ _).1 hh
  have := pf_append n [97] 100 l a [] h
  rw [this] at hb
  injection hb with hb
  injection hb with _ hb
  cases hb

end Go.Proofs.Ytjpkpdihldcdaaa
