/- Walks: the reference draws formulas. -/
import Derived.Test.YtjpkpdihldcdaaaWd3
namespace Go.Proofs.Ytjpkpdihldcdaaa
set_option linter.unusedVariables false
set_option linter.unusedSimpArgs false
open Go.RowKit

def DrPost (m : Nat) (g : Nat) (A : Option Addr) (n c P : Nat) (w : World) (e : Ending) (w' : World) : Prop :=
  ∃ x : ByteArray, x.size + 1 ≤ 2 * m ∧ e = .returned (.string x) ∧ w.grownBy w' (some g) ∧ Rd g A n c (P + (4 * m - 2)) w'

set_option maxHeartbeats 2000000 in
theorem l2DrawS (g : Nat) (A : Option Addr) (n c N : Nat) (h1 : 1 ≤ N) (h5 : N ≤ 5) (d : Nat) : ∀ (P : Nat) (w : World), d ≤ 3 → P + 4 * 2 ^ d ≤ 1000 → Rd g A n c P w →
    Calls Try.prog 150 #[.pointer (some ⟨g, 0, none⟩), .int .i64 (N : Int), .int .i64 (d : Int)] w (DrPost (2 ^ d) g A n c P w) := by
  induction d with
  | zero =>
    intro P w hd hP h
    have hP : P + 4 ≤ 1000 := hP
    go_enter Try.func150, Try.ntmps150
    go_wp2_with fail
    refine (pickS g A n c P 8 _ h (by omega) (by omega)).mono ?_
    rintro e w1 ⟨r, rfl, _, _, hg, hR⟩
    by_cases hq : r = 0
    · have q0 : ((r : Int) == 0) = true := by rw [hq]; rfl
      clear hq
      go_wp2_with fail
      refine (ofB 1 g A n c _ _ [⟨#[48]⟩, ⟨#[49]⟩] _ hR (by omega) (by decide) (by decide) (by decide)).mono ?_
      rintro e w2 ⟨x, hx, rfl, hg2, hR2⟩
      go_wp2_with fail
      go_ret
      exact ⟨x, by omega, rfl, grown_trans hg hg2, hR2.mono (by omega)⟩
    · have q0 : ((r : Int) == 0) = false := by simp; omega
      clear hq
      go_wp2_with fail
      refine (pickS g A n c _ (N : Int) _ hR (by omega) (by omega)).mono ?_
      rintro e w2 ⟨k, rfl, hk, _, hg2, hR2⟩
      have hkN : k < N := by have := hk (by omega); omega
      clear hk
      go_wp2_with fail
      go_ret
      exact ⟨_, by rw [ByteArray.size_extract]; omega, rfl, grown_trans hg hg2, hR2.mono (by omega)⟩
  | succ d ih =>
    intro P w hd hP h
    have IH := Lib.hid ih
    obtain ⟨m, hm⟩ : ∃ m, m = 2 ^ d := ⟨_, rfl⟩
    have hm8 : m ≤ 8 := by
      have : (2 : Nat) ^ d ≤ 2 ^ 3 := Nat.pow_le_pow_right (by omega) (by omega)
      rw [hm]; omega
    have hm1 : 1 ≤ m := by rw [hm]; exact Nat.two_pow_pos d
    rw [← hm] at IH
    have e2 : 2 ^ (d + 1) = 2 * m := by rw [hm, Nat.pow_succ, Nat.mul_comm]
    rw [e2] at hP ⊢
    clear e2
    have hdd : IntKind.i64.wrap ((d : Int) + 1 - 1) = (d : Int) := by rw [IntWalk.i64_in _ (by omega)]; omega
    have hd2 : ((d + 1 : Nat) : Int) = (d : Int) + 1 := by omega
    have hd3 : ¬ ((d : Int) + 1 ≤ 0) := by omega
    have hd4 : decide ((d : Int) + 1 ≤ 0) = false := decide_eq_false hd3
    rw [hd2]
    clear ih hm hd2
    go_enter Try.func150, Try.ntmps150
    go_wp2_with fail
    refine (pickS g A n c P 5 _ h (by omega) (by omega)).mono ?_
    rintro e w1 ⟨r, rfl, hr, _, hg, hR⟩
    have hr5 : r < 5 := by have := hr (by omega); omega
    clear hr
    rcases (show r = 0 ∨ r = 1 ∨ r = 2 ∨ r = 3 ∨ r = 4 by omega) with hq | hq | hq | hq | hq
    · have q0 : ((r : Int) == 0) = true := by rw [hq]; rfl
      clear hq
      go_wp2_with fail
      refine (IH.out _ _ (by omega) (by omega) hR).mono ?_
      rintro e w2 ⟨x, hx, rfl, hg2, hR2⟩
      go_wp2_with fail
      go_ret
      exact ⟨_, by rw [ByteArray.size_append]; have : (⟨#[33]⟩ : ByteArray).size = 1 := rfl; omega, rfl, grown_trans hg hg2, hR2.mono (by omega)⟩
    · have q0 : ((r : Int) == 0) = false := by rw [hq]; rfl
      have q1 : ((r : Int) == 1) = true := by rw [hq]; rfl
      clear hq
      go_wp2_with fail
      refine (IH.out _ _ (by omega) (by omega) hR).mono ?_
      rintro e w2 ⟨x, hx, rfl, hg2, hR2⟩
      go_wp2_with fail
      refine (IH.out _ _ (by omega) (by omega) hR2).mono ?_
      rintro e w3 ⟨y, hy, rfl, hg3, hR3⟩
      go_wp2_with fail
      go_ret
      exact ⟨_, by rw [ByteArray.size_append, ByteArray.size_append]; have : (⟨#[38]⟩ : ByteArray).size = 1 := rfl; omega, rfl, grown_trans hg (grown_trans hg2 hg3), hR3.mono (by omega)⟩
    · have q0 : ((r : Int) == 0) = false := by rw [hq]; rfl
      have q1 : ((r : Int) == 1) = false := by rw [hq]; rfl
      have q2 : ((r : Int) == 2) = true := by rw [hq]; rfl
      clear hq
      go_wp2_with fail
      refine (IH.out _ _ (by omega) (by omega) hR).mono ?_
      rintro e w2 ⟨x, hx, rfl, hg2, hR2⟩
      go_wp2_with fail
      refine (IH.out _ _ (by omega) (by omega) hR2).mono ?_
      rintro e w3 ⟨y, hy, rfl, hg3, hR3⟩
      go_wp2_with fail
      go_ret
      exact ⟨_, by rw [ByteArray.size_append, ByteArray.size_append]; have : (⟨#[38]⟩ : ByteArray).size = 1 := rfl; omega, rfl, grown_trans hg (grown_trans hg2 hg3), hR3.mono (by omega)⟩
    · have q0 : ((r : Int) == 0) = false := by rw [hq]; rfl
      have q1 : ((r : Int) == 1) = false := by rw [hq]; rfl
      have q2 : ((r : Int) == 2) = false := by rw [hq]; rfl
      have q3 : ((r : Int) == 3) = true := by rw [hq]; rfl
      clear hq
      go_wp2_with fail
      refine (IH.out _ _ (by omega) (by omega) hR).mono ?_
      rintro e w2 ⟨x, hx, rfl, hg2, hR2⟩
      go_wp2_with fail
      refine (IH.out _ _ (by omega) (by omega) hR2).mono ?_
      rintro e w3 ⟨y, hy, rfl, hg3, hR3⟩
      go_wp2_with fail
      go_ret
      exact ⟨_, by rw [ByteArray.size_append, ByteArray.size_append]; have : (⟨#[124]⟩ : ByteArray).size = 1 := rfl; omega, rfl, grown_trans hg (grown_trans hg2 hg3), hR3.mono (by omega)⟩
    · have q0 : ((r : Int) == 0) = false := by rw [hq]; rfl
      have q1 : ((r : Int) == 1) = false := by rw [hq]; rfl
      have q2 : ((r : Int) == 2) = false := by rw [hq]; rfl
      have q3 : ((r : Int) == 3) = false := by rw [hq]; rfl
      clear hq
      go_wp2_with fail
      refine (IH.out _ _ (by omega) (by omega) hR).mono ?_
      rintro e w2 ⟨x, hx, rfl, hg2, hR2⟩
      go_wp2_with fail
      refine (IH.out _ _ (by omega) (by omega) hR2).mono ?_
      rintro e w3 ⟨y, hy, rfl, hg3, hR3⟩
      go_wp2_with fail
      go_ret
      exact ⟨_, by rw [ByteArray.size_append, ByteArray.size_append]; have : (⟨#[94]⟩ : ByteArray).size = 1 := rfl; omega, rfl, grown_trans hg (grown_trans hg2 hg3), hR3.mono (by omega)⟩

/-- A text and a number of inputs. -/
def DF (w : World) (e : Ending) (w' : World) : Prop := ∃ (f : ByteArray) (i : Int), f.size ≤ 200 ∧ -1 ≤ i ∧ i ≤ 6 ∧ e = .returned (.tuple #[.string f, .int .i64 i]) ∧ Below w.heap.size w w'
def FoPost (g : Nat) (A : Option Addr) (n c : Nat) (w : World) (e : Ending) (w' : World) : Prop :=
  ∃ (f : ByteArray) (i : Int), f.size ≤ 200 ∧ -1 ≤ i ∧ i ≤ 6 ∧ e = .returned (.tuple #[.string f, .int .i64 i]) ∧ w.grownBy w' (some g)

set_option maxHeartbeats 2000000 in
theorem l2FormulaS (g : Nat) (A : Option Addr) (n c : Nat) (w : World) (h : Rd g A n c 0 w) :
    Calls Try.prog 128 #[.pointer (some ⟨g, 0, none⟩)] w (FoPost g A n c w) := by
  go_enter Try.func128, Try.ntmps128
  go_wp2_with fail
  refine (numN g A n c 0 _ [3, 2, 3, 1, 4] w h (by omega) (by decide) (by decide)).mono ?_
  rintro e w1 ⟨x, hx, rfl, hg, hR⟩
  obtain ⟨N, rfl, hN1, hN5⟩ : ∃ N : Nat, x = (N : Int) ∧ 1 ≤ N ∧ N ≤ 5 := by
    have : 1 ≤ x ∧ x ≤ 5 := by simp at hx; omega
    exact ⟨x.toNat, by omega, by omega, by omega⟩
  clear hx
  go_wp2_with fail
  refine (pickS g A n c _ 4 _ hR (by omega) (by omega)).mono ?_
  rintro e w2 ⟨d, rfl, hd, _, hg2, hR2⟩
  have hd4 : d < 4 := by have := hd (by omega); omega
  have hm : 2 ^ d ≤ 8 := by
    have : (2 : Nat) ^ d ≤ 2 ^ 3 := Nat.pow_le_pow_right (by omega) (by omega)
    omega
  clear hd
  go_wp2_with fail
  refine (l2DrawS g A n c N hN1 hN5 d _ _ (by omega) (by omega) hR2).mono ?_
  rintro e w3 ⟨x, hx, rfl, hg3, hR3⟩
  have hx16 : x.size ≤ 16 := by omega
  have hR3' := hR3.mono (show _ ≤ 100 by omega)
  have G3 := grown_trans hg (grown_trans hg2 hg3)
  clear hm hx hR3 hR2 hR
  go_wp2_with fail
  refine (pickS g A n c _ 20 _ hR3' (by omega) (by omega)).mono ?_
  rintro e w4 ⟨r, rfl, _, _, hg4, hR4⟩
  have G4 := grown_trans G3 hg4
  rcases (show r = 0 ∨ r = 1 ∨ r = 2 ∨ 2 < r by omega) with hq | hq | hq | hq
  · have q0 : ((r : Int) == 0) = true := by rw [hq]; rfl
    clear hq
    go_wp2_with fail
    refine (ofB 1 g A n c _ _ [⟨#[97]⟩, ⟨#[101]⟩, ⟨#[38]⟩, ⟨#[32]⟩] _ hR4 (by omega) (by decide) (by decide) (by decide)).mono ?_
    rintro e w5 ⟨y, hy, rfl, hg5, hR5⟩
    go_wp2_with fail
    go_ret2
    exact ⟨_, _, by rw [ByteArray.size_append]; omega, by omega, by omega, rfl, grown_trans G4 hg5⟩
  · have q0 : ((r : Int) == 0) = false := by rw [hq]; rfl
    have q1 : ((r : Int) == 1) = true := by rw [hq]; rfl
    clear hq
    go_wp2_with fail
    refine (numN g A n c _ _ [0, 6, 5, -1] _ hR4 (by omega) (by decide) (by decide)).mono ?_
    rintro e w5 ⟨y, hy, rfl, hg5, hR5⟩
    have hy' : -1 ≤ y ∧ y ≤ 6 := by simp at hy; omega
    clear hy
    go_wp2_with fail
    go_ret2
    exact ⟨x, y, by omega, hy'.1, hy'.2, rfl, grown_trans G4 hg5⟩
  · have q0 : ((r : Int) == 0) = false := by rw [hq]; rfl
    have q1 : ((r : Int) == 1) = false := by rw [hq]; rfl
    have q2 : ((r : Int) == 2) = true := by rw [hq]; rfl
    clear hq
    go_wp2_with fail
    refine (pickS g A n c _ 4 _ hR4 (by omega) (by omega)).mono ?_
    rintro e w5 ⟨k, rfl, hk, _, hg5, hR5⟩
    have hk4 : k < 4 := by have := hk (by omega); omega
    obtain ⟨K, hK⟩ : ∃ K : Nat, (98 : Int) + (k : Int) = (K : Int) := ⟨98 + k, by omega⟩
    have hK1 : K ≤ 101 := by omega
    have hw : IntKind.i64.wrap (98 + (k : Int)) = (K : Int) := by rw [hK]; exact IntWalk.i64_in _ (by omega)
    clear hk
    go_wp2_with fail
    clear hw hK
    refine (l14ManyS ⟨#[33]⟩ K _ (by decide) (by omega)).mono ?_
    rintro e w' ⟨rfl, rfl⟩
    obtain ⟨M, hM⟩ : ∃ M : ByteArray, M = ⟨(many (⟨#[33]⟩ : ByteArray).data.toList K).toArray⟩ := ⟨_, rfl⟩
    have hMs : M.size ≤ 101 := by rw [hM]; show (many [33] K).toArray.size ≤ 101; simp [many_length]; omega
    rw [← hM]
    clear hM
    go_wp2_with fail
    go_ret2
    exact ⟨_, _, by rw [ByteArray.size_append]; have : (⟨#[97]⟩ : ByteArray).size = 1 := rfl; omega, by omega, by omega, rfl, grown_trans G4 hg5⟩
  · have q0 : ((r : Int) == 0) = false := by simp; omega
    have q1 : ((r : Int) == 1) = false := by simp; omega
    have q2 : ((r : Int) == 2) = false := by simp; omega
    clear hq
    go_wp2_with fail
    go_ret2
    exact ⟨x, _, by omega, by omega, by omega, rfl, G4⟩

theorem drawTableOfS (A : Option Addr) (n c : Nat) (w : World) (h : ArgB w A n c) :
    Calls Try.prog 66 #[.slice A n c] w (DF w) := by
  go_enter Try.func66, Try.ntmps66
  go_wp2_with fail
  refine (l14OpenS A n c w h).mono ?_
  rintro e w1 ⟨rfl, ⟨n', c', hR⟩, hb1⟩
  go_wp2_with fail
  refine (l2FormulaS _ A n' c' _ hR).mono ?_
  rintro e w2 ⟨f, i, hf, hi1, hi2, rfl, hg2⟩
  go_wp2_with fail
  go_ret2
  exact ⟨f, i, hf, hi1, hi2, rfl, below_draw hb1 hg2 (Nat.le_refl _)⟩

end Go.Proofs.Ytjpkpdihldcdaaa
