/- Walks: the reference draws texts that are mostly tables. -/
import Derived.Test.YtnplaiolencgjaaWd2
import Derived.Deep.RegionLaw
namespace Go.Proofs.Ytnplaiolencgjaa
set_option linter.unusedVariables false
set_option linter.unusedSimpArgs false
open Go.RowKit

def OfPostB (m : Nat) (g : Nat) (A : Option Addr) (n c P : Nat) (w : World) (e : Ending) (w' : World) : Prop :=
  ∃ x : ByteArray, x.size ≤ m ∧ e = .returned (.string x) ∧ w.grownBy w' (some g) ∧ Rd g A n c (P + 1) w'
theorem ofB (m g : Nat) (A : Option Addr) (n c P : Nat) (t : TypeId) (xs : List ByteArray) (w : World) (h : Rd g A n c P w) (hP : P ≤ 1000000) (h0 : 0 < xs.length) (hl : xs.length ≤ 1000) (hs : ∀ x ∈ xs, x.size ≤ m) :
    Calls Try.prog 49 #[.pointer (some ⟨g, 0, none⟩), .slice (some ⟨w.heap.size, 0, none⟩) xs.length xs.length] (w.alloc (.cells (xs.map Value.string).toArray t)) (OfPostB m g A n c P w) :=
  (ofN g A n c P t xs w h hP h0 hl).mono fun e w' ⟨x, hx, he, hg, hR⟩ => ⟨x, hs x hx, he, hg, hR⟩
theorem ofD (m g : Nat) (A : Option Addr) (n c P : Nat) (t : TypeId) (xs : List ByteArray) (w : World) (h : Rd g A n c P w) (hP : P ≤ 1000000) (h0 : 0 < xs.length) (hl : xs.length ≤ 1000) (hs : ∀ x ∈ xs, x.size ≤ m) :
    Calls Try.prog 49 #[.pointer (some ⟨g, 0, none⟩), .slice (some ⟨w.heap.size, 0, none⟩) xs.length xs.length] (w.alloc (.cells (xs.map Value.string).toArray t)).drew (OfPostB m g A n c P w) :=
  (ofN g A n c P t xs w.drew h hP h0 hl).mono fun e w' ⟨x, hx, he, hg, hR⟩ => ⟨x, hs x hx, he, ⟨hg.os, hg.tape, hg.output, hg.size, hg.block⟩, hR⟩

theorem l1SomeS (g : Nat) (A : Option Addr) (n c P : Nat) (w : World) (h : Rd g A n c P w) (hP : P ≤ 800000) :
    Calls Try.prog 35 #[.pointer (some ⟨g, 0, none⟩)] w (TextPost 32 g A n c (P + 37) w) := by
  go_enter Try.func35, Try.ntmps35
  go_wp2_with fail
  refine (numN g A n c P _ [3, 2, 3, 1, 4, 2] w h (by omega) (by decide) (by decide)).mono ?_
  rintro e w1 ⟨x, hx, rfl, hg, hR⟩
  obtain ⟨N, rfl, hN1, hN5⟩ : ∃ N : Nat, x = (N : Int) ∧ 1 ≤ N ∧ N ≤ 5 := by
    have : 1 ≤ x ∧ x ≤ 5 := by simp at hx; omega
    exact ⟨x.toNat, by omega, by omega, by omega⟩
  clear hx
  go_wp2_with fail
  refine (l1DrawS g A n c (P + 1) N _ hR (by omega) hN1 hN5).mono ?_
  rintro e w2 ⟨y, hy0, hy1, rfl, hg2, hR2⟩
  go_wp2_with fail
  go_ret
  exact ⟨y, hy0, hy1, rfl, grown_trans hg hg2, hR2.mono (by omega)⟩

set_option maxHeartbeats 1000000 in
theorem l1BadS (f : ByteArray) (g : Nat) (A : Option Addr) (n c P : Nat) (w : World) (h : Rd g A n c P w) (hP : P ≤ 800000) (h0 : 0 < f.size) (h32 : f.size ≤ 32) :
    Calls Try.prog 34 #[.pointer (some ⟨g, 0, none⟩), .string f] w (OfPostB 66 g A n c (P + 2) w) := by
  go_enter Try.func34, Try.ntmps34
  go_wp2_with fail
  refine (pickS g A n c P 30 _ h (by omega) (by omega)).mono ?_
  rintro e w1 ⟨r, rfl, hr, _, hg, hR⟩
  clear hr
  rcases (show r = 0 ∨ r = 1 ∨ r = 2 ∨ 2 < r by omega) with hq | hq | hq | hq
  · have q0 : ((r : Int) == 0) = true := by rw [hq]; rfl
    clear hq
    go_wp2_with fail
    refine (ofB 1 g A n c (P + 1) _ [⟨#[48]⟩, ⟨#[120]⟩, ⟨#[]⟩] _ hR (by omega) (by decide) (by decide) (by decide)).mono ?_
    rintro e w2 ⟨x, hx, rfl, hg2, hR2⟩
    go_wp2_with fail
    go_ret
    exact ⟨_, by rw [ByteArray.size_append]; omega, rfl, grown_trans hg hg2, hR2.mono (by omega)⟩
  · have q0 : ((r : Int) == 0) = false := by rw [hq]; rfl
    have q1 : ((r : Int) == 1) = true := by rw [hq]; rfl
    clear hq
    go_wp2_with fail
    refine (pickS g A n c (P + 1) (f.size : Int) _ hR (by omega) (by omega)).mono ?_
    rintro e w2 ⟨k, rfl, hk, _, hg2, hR2⟩
    have hkf : k < f.size := by have := hk (by omega); omega
    obtain ⟨F1, e1⟩ : ∃ F1, f.extract 0 k = F1 := ⟨_, rfl⟩
    obtain ⟨F2, e2⟩ : ∃ F2, f.extract (k + 1) f.size = F2 := ⟨_, rfl⟩
    have hF1 : F1.size ≤ 32 := by rw [← e1, ByteArray.size_extract]; omega
    have hF2 : F2.size ≤ 32 := by rw [← e2, ByteArray.size_extract]; omega
    have w1' : IntKind.i64.wrap ((k : Int) + 1) = (k : Int) + 1 := IntWalk.i64_in _ (by omega)
    have w2' : (0 : Int) ≤ (k : Int) + 1 := by omega
    have w3' : ((k : Int) + 1).toNat = k + 1 := by omega
    have w4' : (k : Int) + 1 ≤ (f.size : Int) := by omega
    have w5' : (k : Int) ≤ (f.size : Int) := by omega
    have w6' : (0 : Int) ≤ (k : Int) := by omega
    clear hk
    go_wp2_with fail
    go_region_law (first
      | (go_simp; go_at_call 49; refine (ofD 1 g A n c (P + 1 + 1) _ [⟨#[]⟩, ⟨#[50]⟩, ⟨#[32]⟩] w2 ?_ ?_ ?_ ?_ ?_).mono ?_; exact hR2; omega; decide; decide; decide; rintro e w3 ⟨x, hx, rfl, hg3, hR3⟩; have s1 : ¬ (9223372036854775807 < F1.size + x.size) := (by omega); have s2 : ¬ (9223372036854775807 < F1.size + x.size + F2.size) := (by omega)))
    go_wp2_with fail
    go_ret
    exact ⟨_, by rw [ByteArray.size_append, ByteArray.size_append]; omega, rfl, grown_trans hg (grown_trans hg2 hg3), hR3.mono (by omega)⟩
  · have q0 : ((r : Int) == 0) = false := by rw [hq]; rfl
    have q1 : ((r : Int) == 1) = false := by rw [hq]; rfl
    have q2 : ((r : Int) == 2) = true := by rw [hq]; rfl
    clear hq
    go_wp2_with fail
    refine (numN g A n c (P + 1) _ [16, 32, 1] _ hR (by omega) (by decide) (by decide)).mono ?_
    rintro e w2 ⟨x, hx, rfl, hg2, hR2⟩
    obtain ⟨N, rfl, hN5⟩ : ∃ N : Nat, x = (N : Int) ∧ N ≤ 32 := by
      have : 1 ≤ x ∧ x ≤ 32 := by simp at hx; omega
      exact ⟨x.toNat, by omega, by omega⟩
    clear hx
    go_wp2_with fail
    refine (l14ManyS ⟨#[48, 49]⟩ N _ (by decide) (by omega)).mono ?_
    rintro e w' ⟨rfl, rfl⟩
    have HS := Lib.hid (show (⟨(many [48, 49] N).toArray⟩ : ByteArray).size ≤ 64 by show (many [48, 49] N).toArray.size ≤ 64; simp [many_length]; omega)
    go_wp2_with fail
    go_ret
    exact ⟨_, Nat.le_trans HS.out (by decide), rfl, grown_trans hg hg2, hR2.mono (by omega)⟩
  · have q0 : ((r : Int) == 0) = false := by simp; omega
    have q1 : ((r : Int) == 1) = false := by simp; omega
    have q2 : ((r : Int) == 2) = false := by simp; omega
    clear hq
    go_wp2_with fail
    go_ret
    exact ⟨f, by omega, rfl, hg, hR.mono (by omega)⟩

theorem l1OpenS (g : Nat) (A : Option Addr) (n c P : Nat) (w : World) (h : Rd g A n c P w) (hP : P ≤ 700000) :
    Calls Try.prog 15 #[.pointer (some ⟨g, 0, none⟩)] w (OfPostB 66 g A n c (P + 39) w) := by
  go_enter Try.func15, Try.ntmps15
  go_wp2_with fail
  refine (l1SomeS g A n c P w h (by omega)).mono ?_
  rintro e w1 ⟨y, hy0, hy1, rfl, hg, hR⟩
  go_wp2_with fail
  refine (l1BadS y g A n c (P + 37) _ hR (by omega) hy0 hy1).mono ?_
  rintro e w2 ⟨x, hx, rfl, hg2, hR2⟩
  go_wp2_with fail
  go_ret
  exact ⟨x, hx, rfl, grown_trans hg hg2, hR2.mono (by omega)⟩

/-- Two texts. -/
def TwoPost (m : Nat) (g : Nat) (A : Option Addr) (n c P : Nat) (w : World) (e : Ending) (w' : World) : Prop :=
  ∃ x y : ByteArray, x.size ≤ m ∧ y.size ≤ m ∧ e = .returned (.tuple #[.string x, .string y]) ∧ w.grownBy w' (some g) ∧ Rd g A n c P w'

/-- What the draws of arguments hand back. -/
def D1 (w : World) (e : Ending) (w' : World) : Prop := ∃ f : ByteArray, f.size ≤ 100 ∧ e = .returned (.string f) ∧ Below w.heap.size w w'
def D2 (w : World) (e : Ending) (w' : World) : Prop := ∃ f h : ByteArray, f.size ≤ 100 ∧ h.size ≤ 100 ∧ e = .returned (.tuple #[.string f, .string h]) ∧ Below w.heap.size w w'
def D1i (w : World) (e : Ending) (w' : World) : Prop := ∃ (f : ByteArray) (i : Int), f.size ≤ 100 ∧ -1 ≤ i ∧ i ≤ 9223372036854775807 ∧ e = .returned (.tuple #[.string f, .int .i64 i]) ∧ Below w.heap.size w w'
def D1ii (w : World) (e : Ending) (w' : World) : Prop := ∃ (f : ByteArray) (i v : Int), f.size ≤ 100 ∧ -1 ≤ i ∧ i ≤ 9223372036854775807 ∧ -1 ≤ v ∧ v ≤ 2 ∧ e = .returned (.tuple #[.string f, .int .i64 i, .int .i64 v]) ∧ Below w.heap.size w w'
theorem below_draw {w w1 w2 : World} {g : Nat} (h1 : Below w.heap.size w w1) (hg : w1.grownBy w2 (some g)) (hge : w.heap.size ≤ g) : Below w.heap.size w w2 := below_of_grown h1 hg h1.size hge

theorem drawPrimesOfS (A : Option Addr) (n c : Nat) (w : World) (h : ArgB w A n c) :
    Calls Try.prog 4 #[.slice A n c] w (D1 w) := by
  go_enter Try.func4, Try.ntmps4
  go_wp2_with fail
  refine (l14OpenS A n c w h).mono ?_
  rintro e w1 ⟨rfl, ⟨n', c', hR⟩, hb1⟩
  go_wp2_with fail
  refine (l1OpenS _ A n' c' 0 _ hR (by omega)).mono ?_
  rintro e w2 ⟨x, hx, rfl, hg2, hR2⟩
  go_wp2_with fail
  go_ret
  exact ⟨x, by omega, rfl, below_draw hb1 hg2 (Nat.le_refl _)⟩

end Go.Proofs.Ytnplaiolencgjaa
