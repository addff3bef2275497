/- Plain laws of networks: a step. -/
import Derived.Test.YtnplaiolencgjaaDoorWz2
import Derived.Test.YtnplaiolencgjaaDoorPd
namespace Go.Proofs.YtnplaiolencgjaaDoor
set_option linter.unusedVariables false
set_option linter.unusedSimpArgs false
open Go.RowKit

theorem wOk_tab {ts : List (List UInt8)} (h : wOk ts = true) {k : Nat} {t : List UInt8} (ht : ts[k]? = some t) : isTab t = true ∧ lgN t.length = ts.length :=
  tabN_pos _ _ (List.all_eq_true.1 h t (List.mem_of_getElem? ht))
theorem wOk_len {ts : List (List UInt8)} (h : wOk ts = true) {k : Nat} {t : List UInt8} (ht : ts[k]? = some t) : t.length = 2 ^ ts.length := by
  obtain ⟨h1, h2⟩ := wOk_tab h ht
  have := (lgN_pos _ (isTab_pos t h1).1).2.2.1
  rw [h2] at this; exact this
theorem wOk_five {ts : List (List UInt8)} (h : wOk ts = true) : ts.length ≤ 5 := by
  rcases Nat.eq_zero_or_pos ts.length with h0 | h0
  · omega
  · obtain ⟨h1, h2⟩ := wOk_tab h (List.getElem?_eq_getElem h0)
    have := (lgN_pos _ (isTab_pos _ h1).1).2.1
    omega

/-- What the k-th table has for a state. -/
def wv (ts : List (List UInt8)) (k s : Nat) : Nat := tv (ts.getD k []) s
theorem wv_at {ts : List (List UInt8)} {k : Nat} {t : List UInt8} (ht : ts[k]? = some t) (s : Nat) : wv ts k s = tv t s := by unfold wv; rw [List.getD, ht]; rfl
theorem wv_le {ts : List (List UInt8)} (h : wOk ts = true) (k s : Nat) : wv ts k s ≤ 1 := by
  cases e : ts[k]? with
  | none => unfold wv; rw [List.getD, e]; exact tv_le [] rfl s
  | some t => rw [wv_at e]; exact tv_le t (isTab_pos t (wOk_tab h e).1).2 s
/-- The first k switches, of some that step. -/
def stepK (ts : List (List UInt8)) (s which : Nat) : Nat → Nat
  | 0 => s
  | k + 1 => if bitN which k = 1 then holdN (stepK ts s which k) k (wv ts k s) else stepK ts s which k
/-- The first k switches of the next state. -/
def nextK (ts : List (List UInt8)) (s : Nat) : Nat → Nat
  | 0 => 0
  | k + 1 => nextK ts s k ||| (wv ts k s) <<< k
theorem stepK_lt {ts : List (List UInt8)} (h : wOk ts = true) (s which n : Nat) (hn : n ≤ 5) (hs : s < 2 ^ n) : ∀ k, k ≤ n → stepK ts s which k < 2 ^ n
  | 0, _ => hs
  | k + 1, hk => by
    unfold stepK; split
    · exact hold_lt n _ k _ hn (stepK_lt h s which n hn hs k (by omega)) (by omega) (wv_le h k s)
    · exact stepK_lt h s which n hn hs k (by omega)
theorem next_all : ∀ k < 5, ∀ N < 2 ^ k, ∀ s < 32, ∀ b < 2, holdN (N + s / 2 ^ k * 2 ^ k) k b = (N ||| b <<< k) + s / 2 ^ (k + 1) * 2 ^ (k + 1) ∧ (N ||| b <<< k) < 2 ^ (k + 1) := by decide +kernel
theorem ones_all : ∀ n < 6, ∀ k < n, bitN (2 ^ n - 1) k = 1 := by decide +kernel
theorem one_all : ∀ i < 5, ∀ k < 5, bitN (2 ^ i) k = if k = i then 1 else 0 := by decide +kernel
theorem stepK_next {ts : List (List UInt8)} (h : wOk ts = true) (s which n : Nat) (hn : n ≤ 5) (hs : s < 32) (hw : ∀ k, k < n → bitN which k = 1) : ∀ k, k ≤ n → stepK ts s which k = nextK ts s k + s / 2 ^ k * 2 ^ k ∧ nextK ts s k < 2 ^ k
  | 0, _ => by simp [stepK, nextK]
  | k + 1, hk => by
    obtain ⟨h1, h2⟩ := stepK_next h s which n hn hs hw k (by omega)
    have := wv_le h k s
    obtain ⟨h3, h4⟩ := next_all k (by omega) _ h2 s hs (wv ts k s) (by omega)
    unfold stepK nextK
    rw [if_pos (hw k (by omega)), h1]
    exact ⟨h3, h4⟩
theorem nextK_lt {ts : List (List UInt8)} (h : wOk ts = true) (s n : Nat) (hn : n ≤ 5) (hs : s < 32) : ∀ k, k ≤ n → nextK ts s k < 2 ^ k := fun k hk =>
  (stepK_next h s (2 ^ n - 1) n hn hs (fun k hk => ones_all n (by omega) k hk) k hk).2
/-- All switches step. -/
theorem step_all {ts : List (List UInt8)} (h : wOk ts = true) (s n : Nat) (hn : n ≤ 5) (hs : s < 2 ^ n) : stepK ts s (2 ^ n - 1) n = nextK ts s n := by
  have h32 : 2 ^ n ≤ 32 := pow_le32 n hn
  rw [(stepK_next h s (2 ^ n - 1) n hn (by omega) (fun k hk => ones_all n (by omega) k hk) n (Nat.le_refl _)).1, Nat.div_eq_of_lt hs]
  simp
/-- One switch steps. -/
theorem step_one (ts : List (List UInt8)) (s i : Nat) (hi : i < 5) : ∀ k, k ≤ 5 → stepK ts s (2 ^ i) k = if i < k then holdN s i (wv ts i s) else s
  | 0, _ => rfl
  | k + 1, hk => by
    unfold stepK
    rw [one_all i hi k (by omega), step_one ts s i hi k (by omega)]
    by_cases e : k = i
    · subst e
      rw [if_pos rfl, if_pos rfl, if_neg (by omega), if_pos (by omega)]
    · rw [if_neg e, if_neg (by omega)]
      by_cases e2 : i < k
      · rw [if_pos e2, if_pos (by omega)]
      · rw [if_neg e2, if_neg (by omega)]
/-- A network has a state. -/
def stOk (ts : List (List UInt8)) (s : Int) : Bool := wOk ts && (decide (0 ≤ s) && decide (s ≤ ((2 ^ ts.length : Nat) : Int) - 1))
def nextN (ts : List (List UInt8)) (s : Nat) : Nat := nextK ts s ts.length
def allV (ts : List (List UInt8)) (s : Int) : Int := if stOk ts s then (nextN ts s.toNat : Nat) else -1
def oneV (ts : List (List UInt8)) (s i : Int) : Int := if stOk ts s && (decide (0 ≤ i) && decide (i ≤ (ts.length : Int) - 1)) then (holdN s.toNat i.toNat (wv ts i.toNat s.toNat) : Nat) else -1
def restV (ts : List (List UInt8)) (s : Int) : Int := if stOk ts s then ((nextN ts s.toNat ^^^ s.toNat : Nat) : Int) else -1
def fixL (ts : List (List UInt8)) : List Nat := if wOk ts then (List.range (2 ^ ts.length)).filter fun s => nextN ts s == s else []
theorem stOk_state {ts : List (List UInt8)} {s : Int} (h : stOk ts s = true) : ∃ k : Nat, s = k ∧ k < 2 ^ ts.length ∧ wOk ts = true := by
  unfold stOk at h
  simp only [Bool.and_eq_true, decide_eq_true_eq] at h
  exact ⟨s.toNat, by omega, by omega, h.1⟩

end Go.Proofs.YtnplaiolencgjaaDoor
