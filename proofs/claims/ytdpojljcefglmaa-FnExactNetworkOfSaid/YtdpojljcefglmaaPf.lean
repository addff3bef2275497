/- Plain: formulas. -/
import Derived.Test.YtdpojljcefglmaaPe
namespace Go.Proofs.Ytdpojljcefglmaa
set_option linter.unusedVariables false
set_option linter.unusedSimpArgs false

/-- A formula. -/
inductive Fm
  | con (c : UInt8)
  | inp (c : UInt8)
  | neg (a : Fm)
  | two (c : UInt8) (a b : Fm)

/-- The formula at the front of a text, and what is left. -/
def pf (n : Nat) : Nat → List UInt8 → Option (Fm × List UInt8)
  | 0, _ => none
  | _ + 1, [] => none
  | k + 1, c :: r =>
    if c = 48 ∨ c = 49 then some (.con c, r)
    else if 97 ≤ c.toNat ∧ c.toNat < 97 + n then some (.inp c, r)
    else if c = 33 then
      match pf n k r with
      | none => none
      | some (a, m) => some (.neg a, m)
    else if c = 38 ∨ c = 124 ∨ c = 94 then
      match pf n k r with
      | none => none
      | some (a, m) =>
        match pf n k m with
        | none => none
        | some (b, q) => some (.two c a b, q)
    else none

theorem pf_len (n : Nat) : ∀ (k : Nat) (l : List UInt8) (a : Fm) (m : List UInt8), pf n k l = some (a, m) → m.length < l.length := by
  intro k
  induction k with
  | zero => intro l a m h; cases h
  | succ k ih =>
    intro l a m h
    rcases l with _ | ⟨c, r⟩
    · cases h
    · rw [pf] at h
      split at h
      · injection h with h; injection h with h1 h2; subst h2; simp
      · split at h
        · injection h with h; injection h with h1 h2; subst h2; simp
        · split at h
          · split at h
            · cases h
            · next a' m' hh =>
              injection h with h; injection h with h1 h2; subst h2
              have := ih _ _ _ hh; simp; omega
          · split at h
            · split at h
              · cases h
              · next a' m' hh =>
                split at h
                · cases h
                · next b q hq =>
                  injection h with h; injection h with h1 h2; subst h2
                  have := ih _ _ _ hh; have := ih _ _ _ hq; simp; omega
            · cases h

theorem pf_con (n k : Nat) (c : UInt8) (r : List UInt8) (h : c = 48 ∨ c = 49) : pf n (k + 1) (c :: r) = some (.con c, r) := by rw [pf, if_pos h]
theorem pf_inp (n k : Nat) (c : UInt8) (r : List UInt8) (h0 : ¬ (c = 48 ∨ c = 49)) (h : 97 ≤ c.toNat ∧ c.toNat < 97 + n) : pf n (k + 1) (c :: r) = some (.inp c, r) := by rw [pf, if_neg h0, if_pos h]
theorem pf_neg (n k : Nat) (r : List UInt8) : pf n (k + 1) (33 :: r) = match pf n k r with | none => none | some (a, m) => some (.neg a, m) := by
  rw [pf, if_neg (by decide), if_neg (by simp), if_pos rfl]
theorem pf_two (n k : Nat) (c : UInt8) (r : List UInt8) (h2 : ¬ (97 ≤ c.toNat ∧ c.toNat < 97 + n)) (h : c = 38 ∨ c = 124 ∨ c = 94) : pf n (k + 1) (c :: r) = match pf n k r with | none => none | some (a, m) => match pf n k m with | none => none | some (b, q) => some (.two c a b, q) := by
  rw [pf, if_neg (by rcases h with h | h | h <;> subst h <;> decide), if_neg h2, if_neg (by rcases h with h | h | h <;> subst h <;> decide), if_pos h]
theorem pf_no (n k : Nat) (c : UInt8) (r : List UInt8) (h0 : ¬ (c = 48 ∨ c = 49)) (h2 : ¬ (97 ≤ c.toNat ∧ c.toNat < 97 + n)) (h3 : c ≠ 33) (h : ¬ (c = 38 ∨ c = 124 ∨ c = 94)) : pf n (k + 1) (c :: r) = none := by
  rw [pf, if_neg h0, if_neg h2, if_neg h3, if_neg h]

/-- The text is a formula as a whole. -/
def fmOk (l : List UInt8) (n : Int) : Bool := (decide (1 ≤ n) && decide (n ≤ 5)) && (decide (l.length ≤ 100) && match pf n.toNat 100 l with | some (_, []) => true | _ => false)

end Go.Proofs.Ytdpojljcefglmaa
