/- Walks: the reference draws states. -/
import Derived.Test.YtjpkpdihldcdaaaWd3
import Derived.Test.YtjpkpdihldcdaaaWf
namespace Go.Proofs.Ytjpkpdihldcdaaa
set_option linter.unusedVariables false
set_option linter.unusedSimpArgs false
open Go.RowKit

theorem ArgB.keep {w w' : World} {A : Option Addr} {n c : Nat} (h : ArgB w A n c) (hb : Below w.heap.size w w') : ArgB w' A n c := by
  obtain ⟨h1, h2, h3⟩ := h
  refine ⟨h1, h2, fun hne => ?_⟩
  obtain ⟨ad, hA, hlt, hk⟩ := h3 hne
  refine ⟨ad, hA, Nat.lt_of_lt_of_le hlt hb.size, fun k hk' => ?_⟩
  obtain ⟨z, hz, hc⟩ := hk k hk'
  exact ⟨z, hz, (hb.cell (p := ad.add k) (World.block_lt_of_cell? _ _ hc)).trans hc⟩

def DSt (w : World) (e : Ending) (w' : World) : Prop := ∃ s N : Int, -1 ≤ s ∧ s ≤ 9223372036854775807 ∧ 0 ≤ N ∧ N ≤ 6 ∧ e = .returned (.tuple #[.int .i64 s, .int .i64 N]) ∧ Below w.heap.size w w'

theorem drawFormatStateS (A : Option Addr) (n c : Nat) (w : World) (h : ArgB w A n c) :
    Calls Try.prog 60 #[.slice A n c] w (DSt w) := by
  go_enter Try.func60, Try.ntmps60
  go_wp2_with fail
  refine (l14OpenS A n c w h).mono ?_
  rintro e w1 ⟨rfl, ⟨n', c', hR⟩, hb1⟩
  go_wp2_with fail
  refine (pickS _ A n' c' _ 8 _ hR (by omega) (by omega)).mono ?_
  rintro e w3 ⟨r, rfl, hr, _, hg3, hR3⟩
  have hr8 : r < 8 := by have := hr (by omega); omega
  clear hr
  go_wp2_with fail
  refine (pickS _ A n' c' _ 2 _ hR3 (by omega) (by omega)).mono ?_
  rintro e w4 ⟨q, rfl, hq, _, hg4, hR4⟩
  have hq2 : q < 2 := by have := hq (by omega); omega
  clear hq
  go_wp2_with fail
  refine (numN _ A n' c' _ _ [(r : Int), (q : Int), -1, 32, 9223372036854775807] _ hR4 (by omega) (by simp) (by simp)).mono ?_
  rintro e w5 ⟨i, hi, rfl, hg5, hR5⟩
  have hi' : -1 ≤ i ∧ i ≤ 9223372036854775807 := by simp at hi; omega
  clear hi
  go_wp2_with fail
  refine (numN _ A n' c' _ _ [3, 2, 1, 5, 0, 6] _ hR5 (by omega) (by simp) (by simp)).mono ?_
  rintro e w6 ⟨N, hN, rfl, hg6, hR6⟩
  have hN' : 0 ≤ N ∧ N ≤ 6 := by simp at hN; omega
  clear hN
  go_wp2_with fail
  go_ret2
  exact ⟨i, N, hi'.1, hi'.2, hN'.1, hN'.2, rfl, below_draw hb1 (grown_trans hg3 (grown_trans hg4 (grown_trans hg5 hg6))) (Nat.le_refl _)⟩

set_option maxHeartbeats 1000000 in
theorem drawParseStateS (A : Option Addr) (n c : Nat) (w : World) (h : ArgB w A n c) :
    Calls Try.prog 64 #[.slice A n c] w (D1 w) := by
  go_enter Try.func64, Try.ntmps64
  go_wp2_with fail
  refine (l14OpenS A n c w h).mono ?_
  rintro e w1 ⟨rfl, ⟨n', c', hR⟩, hb1⟩
  go_wp2_with fail
  refine (pickS _ A n' c' _ 8 _ hR (by omega) (by omega)).mono ?_
  rintro e w3 ⟨r, rfl, hr, _, hg3, hR3⟩
  have hr8 : r < 8 := by have := hr (by omega); omega
  clear hr
  go_wp2_with fail
  refine (pickS _ A n' c' _ 5 _ hR3 (by omega) (by omega)).mono ?_
  rintro e w4 ⟨q, rfl, hq, _, hg4, hR4⟩
  have hq5 : q < 5 := by have := hq (by omega); omega
  obtain ⟨N, hN⟩ : ∃ N : Nat, (1 : Int) + (q : Int) = (N : Int) := ⟨1 + q, by omega⟩
  have hN5 : N ≤ 5 := by omega
  have hN1 : 1 ≤ N := by omega
  have hw : IntKind.i64.wrap (1 + (q : Int)) = (N : Int) := by rw [hN]; exact IntWalk.i64_in _ (by omega)
  clear hq
  go_wp2_with fail
  clear hw hN
  refine (l3ToldS r N _ (by omega) (by omega)).mono ?_
  rintro e w5 ⟨rfl, hb5⟩
  have hR5 := hR4.below hb5
  have G5 := grown_below (grown_trans hg3 hg4) hb5 (Nat.le_trans hg3.size hg4.size)
  obtain ⟨t, ht⟩ : ∃ t : ByteArray, t = ⟨(fsL r N).toArray⟩ := ⟨_, rfl⟩
  have hts : t.size = N := by rw [ht]; show (fsL r N).toArray.size = N; simp [fsL, txt_length]
  rw [← ht]
  have hts5 : t.size ≤ 5 := by omega
  have hts1 : 1 ≤ t.size := by omega
  clear ht hts hg3 hg4 hb5 hR hR3 hR4
  go_wp2_with fail
  refine (pickS _ A n' c' _ 3 _ hR5 (by omega) (by omega)).mono ?_
  rintro e w6 ⟨z, rfl, _, _, hg6, hR6⟩
  have G6 := grown_trans G5 hg6
  by_cases hz : z = 0
  · have q0 : ((z : Int) == 0) = true := by rw [hz]; rfl
    clear hz
    go_wp2_with fail
    refine (pickS _ A n' c' (0 + 1 + 1 + 1) (t.size : Int) _ hR6 (by omega) (by omega)).mono ?_
    rintro e w7 ⟨k, rfl, hk, _, hg7, hR7⟩
    have hkf : k < t.size := by have := hk (by omega); omega
    obtain ⟨F1, e1⟩ : ∃ F1, t.extract 0 k = F1 := ⟨_, rfl⟩
    obtain ⟨F2, e2⟩ : ∃ F2, t.extract (k + 1) t.size = F2 := ⟨_, rfl⟩
    have hF1 : F1.size ≤ 5 := by rw [← e1, ByteArray.size_extract]; omega
    have hF2 : F2.size ≤ 5 := by rw [← e2, ByteArray.size_extract]; omega
    have w1' : IntKind.i64.wrap ((k : Int) + 1) = (k : Int) + 1 := IntWalk.i64_in _ (by omega)
    have w2' : (0 : Int) ≤ (k : Int) + 1 := by omega
    have w3' : ((k : Int) + 1).toNat = k + 1 := by omega
    have w4' : (k : Int) + 1 ≤ (t.size : Int) := by omega
    have w5' : (k : Int) ≤ (t.size : Int) := by omega
    have w6' : (0 : Int) ≤ (k : Int) := by omega
    clear hk
    go_wp2_with fail
    go_region_law (first
      | (go_simp; go_at_call 127; refine (ofD 2 _ A n' c' (0 + 1 + 1 + 1 + 1) _ [⟨#[]⟩, ⟨#[42]⟩, ⟨#[48, 49]⟩, ⟨#[50]⟩] w7 ?_ ?_ ?_ ?_ ?_).mono ?_; exact hR7; omega; decide; decide; decide; rintro e w8 ⟨x, hx, rfl, hg8, hR8⟩; have s1 : ¬ (9223372036854775807 < F1.size + x.size) := (by omega); have s2 : ¬ (9223372036854775807 < F1.size + x.size + F2.size) := (by omega)))
    go_wp2_with fail
    go_ret
    exact ⟨_, by rw [ByteArray.size_append, ByteArray.size_append]; omega, rfl, below_draw hb1 (grown_trans G6 (grown_trans hg7 hg8)) (Nat.le_refl _)⟩
  · have q0 : ((z : Int) == 0) = false := by simp; omega
    clear hz
    go_wp2_with fail
    go_ret
    exact ⟨t, by omega, rfl, below_draw hb1 G6 (Nat.le_refl _)⟩

end Go.Proofs.Ytjpkpdihldcdaaa
