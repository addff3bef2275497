/- Walks: the reference draws terms. -/
import Derived.Test.YtjpkpdihldcdaaaWd3
import Derived.Test.YtjpkpdihldcdaaaWp2
import Derived.Test.YtjpkpdihldcdaaaWb
namespace Go.Proofs.Ytjpkpdihldcdaaa
set_option linter.unusedVariables false
set_option linter.unusedSimpArgs false
open Go.RowKit

def TermPost (N : Nat) (g : Nat) (A : Option Addr) (n c P : Nat) (w : World) (e : Ending) (w' : World) : Prop :=
  ∃ x : ByteArray, x.size = N ∧ e = .returned (.string x) ∧ w.grownBy w' (some g) ∧ Rd g A n c P w'

theorem ne_block {b g : Nat} (k : Nat) (sp : Option Nat) (h : b ≠ g) : some (⟨b, k, sp⟩ : Addr).block ≠ some g := fun e => by injection e with e; exact h e

/-- An element of a list is taken. -/
def PickT (ts : List (List UInt8)) (L g : Nat) (A : Option Addr) (n c P : Nat) (B : Option Addr) (w : World) (e : Ending) (w' : World) : Prop :=
  ∃ (r : Nat) (t : List UInt8) (bb : Nat), e = .returned (.int .i64 (r : Int)) ∧ r < L ∧ B = some ⟨bb, 0, none⟩ ∧ w'.cell? ⟨bb, r, none⟩ = some (.string ⟨t.toArray⟩) ∧ t ∈ ts ∧ w.grownBy w' (some g) ∧ Rd g A n c (P + 1) w'
theorem pickT (ts : List (List UInt8)) (L base g : Nat) (A : Option Addr) (n c P : Nat) (B : Option Addr) (w : World) (h : Rd g A n c P w) (hP : P ≤ 900000) (hL : L = ts.length) (h0 : 0 < L) (hm : L ≤ 1000) (hbg : g < base) (ht : Tex w base B ts) :
    Calls Try.prog 81 #[.pointer (some ⟨g, 0, none⟩), .int .i64 (L : Int)] w.drew (PickT ts L g A n c P B w) := by
  refine (pickS g A n c P (L : Int) w.drew h (by omega) (by omega)).mono ?_
  rintro e w5 ⟨r, he, hr, _, hg5, hR5⟩
  have hrL : r < L := by have := hr (by omega); omega
  obtain ⟨t, hrt⟩ : ∃ t, ts[r]? = some t := ⟨_, List.getElem?_eq_getElem (by rw [← hL]; exact hrL)⟩
  obtain ⟨bb, hB, hbb, hcell⟩ := ht r t hrt
  exact ⟨r, t, bb, he, hrL, hB, hg5.cell (w := w.drew) hcell (ne_block _ _ (by omega)), List.mem_of_getElem? hrt, ⟨hg5.os, hg5.tape, hg5.output, hg5.size, hg5.block⟩, hR5⟩

theorem l2TermS (g : Nat) (A : Option Addr) (n c P N : Nat) (w : World) (h : Rd g A n c P w) (hP : P ≤ 700000) (hN : N ≤ 8) :
    Calls Try.prog 108 #[.pointer (some ⟨g, 0, none⟩), .int .i64 (N : Int)] w (TermPost N g A n c (P + N) w) := by
  go_enter Try.func108, Try.ntmps108
  go_wp2_with fail
  go_loopw [5, 6] (fun v j wr => ∃ (k : Nat) (x : ByteArray), k ≤ N ∧ j = .int .i64 k ∧ v = .string x ∧ Hid (x.size = k) ∧ w.grownBy wr (some g) ∧ Rd g A n c (P + k) wr) (fun _ j _ => N - (intOf j).toNat)
  case atStart => exact ⟨0, ⟨#[]⟩, Nat.zero_le _, rfl, rfl, rfl, grown_refl _ _, h⟩
  case round =>
    obtain ⟨k, x, hk, rfl, rfl, hx, hG, hR⟩ := hrel
    by_cases hlt : k < N
    · go_wp2_with fail
      refine (ofN g A n c (P + k) _ [⟨#[42]⟩, ⟨#[48]⟩, ⟨#[49]⟩, ⟨#[42]⟩] _ hR (by omega) (by decide) (by decide)).mono ?_
      rintro e w2 ⟨y, hy, rfl, hg2, hR2⟩
      have hy1 : y.size = 1 := by
        have : ∀ y ∈ [(⟨#[42]⟩ : ByteArray), ⟨#[48]⟩, ⟨#[49]⟩, ⟨#[42]⟩], y.size = 1 := by decide
        exact this y hy
      have HY := Lib.hid hy1
      have hx8 : x.size ≤ 8 := by rw [hx.out]; omega
      have hy8 : y.size ≤ 8 := by omega
      clear hy hy1
      go_wp2_with fail
      go_roundw
      case rel => exact ⟨k + 1, _, by omega, by go_num, rfl, by show _ = _; rw [ByteArray.size_append, hx.out, HY.out], grown_trans hG hg2, hR2⟩
      case measure => simp [intOf]; omega
    · obtain rfl : k = N := by omega
      go_wp2_with fail
      go_ret
      exact ⟨x, hx.out, rfl, hG, hR⟩

theorem l2BadS (f : ByteArray) (g : Nat) (A : Option Addr) (n c P : Nat) (w : World) (h : Rd g A n c P w) (hP : P ≤ 800000) (h32 : f.size ≤ 32) :
    Calls Try.prog 109 #[.pointer (some ⟨g, 0, none⟩), .string f] w (OfPostB 66 g A n c (P + 2) w) := by
  go_enter Try.func109, Try.ntmps109
  go_wp2_with fail
  refine (pickS g A n c P 20 _ h (by omega) (by omega)).mono ?_
  rintro e w1 ⟨r, rfl, hr, _, hg, hR⟩
  clear hr
  by_cases hq : r = 0
  · have q0 : ((r : Int) == 0) = true := by rw [hq]; rfl
    clear hq
    go_wp2_with fail
    refine (ofB 6 g A n c (P + 1) _ [⟨#[42]⟩, ⟨#[120]⟩, ⟨#[49, 49, 49, 49, 49, 49]⟩, ⟨#[45]⟩] _ hR (by omega) (by decide) (by decide) (by decide)).mono ?_
    rintro e w2 ⟨x, hx, rfl, hg2, hR2⟩
    go_wp2_with fail
    go_ret
    exact ⟨_, by rw [ByteArray.size_append]; omega, rfl, grown_trans hg hg2, hR2.mono (by omega)⟩
  · have q0 : ((r : Int) == 0) = false := by simp; omega
    clear hq
    go_wp2_with fail
    go_ret
    exact ⟨f, by omega, rfl, hg, hR.mono (by omega)⟩

set_option maxHeartbeats 1000000 in
theorem drawIsInsideS (A : Option Addr) (n c : Nat) (w : World) (h : ArgB w A n c) :
    Calls Try.prog 39 #[.slice A n c] w (D2 w) := by
  go_enter Try.func39, Try.ntmps39
  go_wp2_with fail
  refine (l14OpenS A n c w h).mono ?_
  rintro e w1 ⟨rfl, ⟨n', c', hR⟩, hb1⟩
  go_wp2_with fail
  refine (pickS _ A n' c' _ 4 _ hR (by omega) (by omega)).mono ?_
  rintro e w2 ⟨r, rfl, hr, _, hg2, hR2⟩
  have hr4 : r < 4 := by have := hr (by omega); omega
  obtain ⟨N, hN⟩ : ∃ N : Nat, (1 : Int) + (r : Int) = (N : Int) := ⟨1 + r, by omega⟩
  have hN5 : N ≤ 4 := by omega
  have hN1 : 1 ≤ N := by omega
  have hw : IntKind.i64.wrap (1 + (r : Int)) = (N : Int) := by rw [hN]; exact IntWalk.i64_in _ (by omega)
  clear hr
  go_wp2_with fail
  clear hw hN
  refine (l2TermS _ A n' c' _ N _ hR2 (by omega) (by omega)).mono ?_
  rintro e w3 ⟨t, ht, rfl, hg3, hR3⟩
  have HT := Lib.hid ht
  have ht8 : t.size ≤ 8 := by omega
  clear ht
  go_wp2_with fail
  refine (l2TermS _ A n' c' _ N _ hR3 (by omega) (by omega)).mono ?_
  rintro e w4 ⟨u, hu, rfl, hg4, hR4⟩
  have hu8 : u.size ≤ 8 := by omega
  clear hu
  go_wp2_with fail
  refine (pickS _ A n' c' _ 2 _ hR4 (by omega) (by omega)).mono ?_
  rintro e w5 ⟨q, rfl, _, _, hg5, hR5⟩
  have G5 := grown_trans hg2 (grown_trans hg3 (grown_trans hg4 hg5))
  clear hg2 hg3 hg4 hg5 hR hR2 hR3 hR4
  by_cases hq : q = 0
  · have q0 : ((q : Int) == 0) = true := by rw [hq]; rfl
    clear hq
    go_wp2_with fail
    refine (pickS _ A n' c' _ (N : Int) _ hR5 (by omega) (by omega)).mono ?_
    rintro e w6 ⟨k, rfl, hk, _, hg6, hR6⟩
    have hkN : k < t.size := by have := hk (by omega); rw [HT.out]; omega
    obtain ⟨F1, e1⟩ : ∃ F1, t.extract 0 k = F1 := ⟨_, rfl⟩
    obtain ⟨F2, e2⟩ : ∃ F2, t.extract (k + 1) t.size = F2 := ⟨_, rfl⟩
    have hF1 : F1.size ≤ 8 := by rw [← e1, ByteArray.size_extract]; omega
    have hF2 : F2.size ≤ 8 := by rw [← e2, ByteArray.size_extract]; omega
    have w1' : IntKind.i64.wrap ((k : Int) + 1) = (k : Int) + 1 := IntWalk.i64_in _ (by omega)
    have w2' : (0 : Int) ≤ (k : Int) + 1 := by omega
    have w3' : ((k : Int) + 1).toNat = k + 1 := by omega
    have w4' : (k : Int) + 1 ≤ (t.size : Int) := by omega
    have w5' : (k : Int) ≤ (t.size : Int) := by omega
    have w6' : (0 : Int) ≤ (k : Int) := by omega
    have s1 : ¬ (9223372036854775807 < F1.size + 1) := by omega
    have s2 : ¬ (9223372036854775807 < F1.size + 1 + F2.size) := by omega
    clear hk
    go_wp2_with fail
    go_quiet (fail)
    clear e1 e2 w1' w3'
    have hRq : Rd w.heap.size A n' c' _ (w6.drewN nq) := hR6
    have hGq : w5.grownBy (w6.drewN nq) (some w.heap.size) := ⟨hg6.os, hg6.tape, hg6.output, hg6.size, hg6.block⟩
    generalize w6.drewN nq = w7 at *
    obtain ⟨M, hM⟩ : ∃ M, M = F1 ++ ⟨#[42]⟩ ++ F2 := ⟨_, rfl⟩
    have hMs : M.size ≤ 32 := by rw [hM, ByteArray.size_append, ByteArray.size_append]; have : (⟨#[42]⟩ : ByteArray).size = 1 := rfl; omega
    rw [← hM]
    clear hR6 hg6 hM
    go_wp2_with fail
    refine (l2BadS t _ A n' c' _ _ hRq (by omega) (by omega)).mono ?_
    rintro e w8 ⟨x, hx, rfl, hg8, hR8⟩
    go_wp2_with fail
    refine (l2BadS M _ A n' c' _ _ hR8 (by omega) hMs).mono ?_
    rintro e w9 ⟨y, hy, rfl, hg9, hR9⟩
    go_wp2_with fail
    go_ret2
    exact ⟨x, y, by omega, by omega, rfl, below_draw hb1 (grown_trans G5 (grown_trans hGq (grown_trans hg8 hg9))) (Nat.le_refl _)⟩
  · have q0 : ((q : Int) == 0) = false := by simp; omega
    clear hq
    go_wp2_with fail
    refine (l2BadS t _ A n' c' _ _ hR5 (by omega) (by omega)).mono ?_
    rintro e w8 ⟨x, hx, rfl, hg8, hR8⟩
    go_wp2_with fail
    refine (l2BadS u _ A n' c' _ _ hR8 (by omega) (by omega)).mono ?_
    rintro e w9 ⟨y, hy, rfl, hg9, hR9⟩
    go_wp2_with fail
    go_ret2
    exact ⟨x, y, by omega, by omega, rfl, below_draw hb1 (grown_trans G5 (grown_trans hg8 hg9)) (Nat.le_refl _)⟩

end Go.Proofs.Ytjpkpdihldcdaaa
