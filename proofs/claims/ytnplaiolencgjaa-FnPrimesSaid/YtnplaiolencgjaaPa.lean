/- Plain words: terms and states, with no program in sight. -/
import Derived.PlainAid
namespace Go.Proofs.Ytnplaiolencgjaa
set_option linter.unusedVariables false
set_option linter.unusedSimpArgs false

/-- A byte of a term: '*', '0' or '1'. -/
def tb (c : UInt8) : Bool := c == 42 || c == 48 || c == 49
/-- A byte of a table: '0' or '1'. -/
def zb (c : UInt8) : Bool := c == 48 || c == 49

theorem u8_int (c : UInt8) (k : Nat) (hk : k < 256) : (c == UInt8.ofNat k) = decide ((c.toNat : Int) = k) := by
  rw [Bool.eq_iff_iff]; simp only [beq_iff_eq, decide_eq_true_eq]
  constructor
  · rintro rfl; simp; omega
  · intro h; apply UInt8.toNat_inj.1; simp; omega

theorem tb_iff (c : UInt8) : tb c = true ↔ ((c.toNat : Int) = 42 ∨ (c.toNat : Int) = 48 ∨ (c.toNat : Int) = 49) := by
  unfold tb
  have e1 := u8_int c 42 (by omega); have e2 := u8_int c 48 (by omega); have e3 := u8_int c 49 (by omega)
  simp only [show UInt8.ofNat 42 = 42 from rfl, show UInt8.ofNat 48 = 48 from rfl, show UInt8.ofNat 49 = 49 from rfl] at e1 e2 e3
  rw [e1, e2, e3]; simp; omega

theorem zb_iff (c : UInt8) : zb c = true ↔ ((c.toNat : Int) = 48 ∨ (c.toNat : Int) = 49) := by
  unfold zb
  have e2 := u8_int c 48 (by omega); have e3 := u8_int c 49 (by omega)
  simp only [show UInt8.ofNat 48 = 48 from rfl, show UInt8.ofNat 49 = 49 from rfl] at e2 e3
  rw [e2, e3]; simp

/-- A text is a term of n inputs. -/
def isTerm (l : List UInt8) (n : Int) : Bool := decide (1 ≤ n) && decide (n ≤ 5) && decide ((l.length : Int) = n) && l.all tb

theorem isTerm_range (l : List UInt8) (n : Int) (h : n < 1 ∨ 5 < n ∨ (l.length : Int) ≠ n) : isTerm l n = false := by
  unfold isTerm
  rcases h with h | h | h
  · simp; omega
  · simp; omega
  · simp [h]

theorem isTerm_all (l : List UInt8) (n : Int) (h1 : 1 ≤ n) (h2 : n ≤ 5) (h3 : (l.length : Int) = n) : isTerm l n = l.all tb := by
  unfold isTerm; simp [h1, h2, h3]

theorem all_false_at {α : Type} (l : List α) (p : α → Bool) (k : Nat) (hk : k < l.length) (h : p l[k] = false) : l.all p = false := by
  rw [List.all_eq_false]; exact ⟨l[k], List.getElem_mem hk, by simp [h]⟩

theorem all_true_take {α : Type} (l : List α) (p : α → Bool) (k : Nat) (h : (l.take k).all p = true) (hk : l.length ≤ k) : l.all p = true := by
  rwa [List.take_of_length_le hk] at h

theorem all_take_succ {α : Type} (l : List α) (p : α → Bool) (k : Nat) (hk : k < l.length) (h : (l.take k).all p = true) (hp : p l[k] = true) : (l.take (k + 1)).all p = true := by
  rw [List.take_succ_eq_append_getElem hk, List.all_append]; simp [h, hp]

/-- Where a byte is found first. -/
def findB (l : List UInt8) (c : UInt8) : Int := if c ∈ l then (l.idxOf c : Int) else -1

theorem findB_no (l : List UInt8) (c : UInt8) (h : ∀ x ∈ l, x ≠ c) : findB l c = -1 := by
  unfold findB; rw [if_neg (fun hm => h c hm rfl)]

theorem idxOf_first (l : List UInt8) (c : UInt8) (k : Nat) (hk : k < l.length) (he : l[k] = c) (h : ∀ x ∈ l.take k, x ≠ c) : l.idxOf c = k := by
  induction l generalizing k with
  | nil => simp at hk
  | cons a l ih =>
    cases k with
    | zero => simp at he; subst he; simp [List.idxOf_cons]
    | succ k =>
      have ha : a ≠ c := h a (by simp)
      have hne : (a == c) = false := by simpa using ha
      rw [List.idxOf_cons, hne]
      show List.idxOf c l + 1 = k + 1
      congr 1
      exact ih k (by simpa using hk) (by simpa using he) (fun x hx => h x (by simp [hx]))

theorem findB_at (l : List UInt8) (c : UInt8) (k : Nat) (hk : k < l.length) (he : l[k] = c) (h : ∀ x ∈ l.take k, x ≠ c) : findB l c = k := by
  unfold findB; rw [if_pos (he ▸ List.getElem_mem hk), idxOf_first l c k hk he h]

theorem findB_neg (l : List UInt8) (c : UInt8) : findB l c < 0 ↔ ¬ c ∈ l := by
  unfold findB; split <;> simp_all <;> omega

theorem notin_succ (l : List UInt8) (c : UInt8) (k : Nat) (hk : k < l.length) (h : ∀ x ∈ l.take k, x ≠ c) (he : l[k] ≠ c) : ∀ x ∈ l.take (k + 1), x ≠ c := by
  rw [List.take_succ_eq_append_getElem hk]
  intro x hx
  rcases List.mem_append.1 hx with hx | hx
  · exact h x hx
  · simp at hx; subst hx; exact he

theorem tb_find (c : UInt8) : tb c = !decide (findB [42, 48, 49] c < 0) := by
  have h := findB_neg [42, 48, 49] c
  rw [Bool.eq_iff_iff, Bool.not_eq_true', decide_eq_false_iff_not, h]
  rw [Decidable.not_not]
  simp [tb, or_assoc]

/-- The state that a text of values says, its first k bytes read. -/
def stN (l : List UInt8) : Nat → Nat
  | 0 => 0
  | k + 1 => stN l k ||| (((l.getD k 48).toNat - 48) <<< k)

/-- What ParseState returns. -/
def isState (l : List UInt8) : Bool := decide (1 ≤ l.length) && decide (l.length ≤ 5) && l.all zb

theorem zb_tb (l : List UInt8) : l.all zb = (l.all tb && !l.contains 42) := by
  induction l with
  | nil => rfl
  | cons a l ih =>
    simp only [List.all_cons, List.contains_cons, ih]
    by_cases h : a = 42
    · subst h; simp [zb, tb]
    · have h3 : (a == 42) = false := by simpa using h
      have : zb a = tb a := by unfold zb tb; rw [h3]; rfl
      have h2 : (42 == a) = false := by simpa using fun e => h e.symm
      rw [this, h2]; cases tb a <;> cases l.all tb <;> simp

theorem isState_of (l : List UInt8) : isState l = (isTerm l l.length && !decide (0 ≤ findB l 42)) := by
  have h := findB_neg l 42
  have hc : l.contains 42 = decide (0 ≤ findB l 42) := by
    rw [Bool.eq_iff_iff, decide_eq_true_eq, List.contains_iff_mem]
    constructor
    · intro hm; exact Int.not_lt.1 (fun hn => (h.1 hn) hm)
    · intro hm; exact Decidable.not_not.1 (fun hn => absurd (h.2 hn) (by omega))
  unfold isState isTerm
  rw [zb_tb, hc]
  have e1 : decide (1 ≤ (l.length : Int)) = decide (1 ≤ l.length) := by simp; omega
  have e2 : decide ((l.length : Int) ≤ 5) = decide (l.length ≤ 5) := by simp; omega
  rw [e1, e2]
  simp [Bool.and_assoc]

end Go.Proofs.Ytnplaiolencgjaa
